/-
  scan: a reader; pairs.
-/
import Derived.Test.YthifnahfcbgnoaaDoorScB
import Derived.Test.YthifnahfcbgnoaaDoorBC
import Derived.Test.YthifnahfcbgnoaaDoorBD
set_option maxRecDepth 100000
set_option linter.unusedVariables false
set_option linter.unusedSimpArgs false
namespace Go.Proofs.YthifnahfcbgnoaaDoor.B
open Go Go.Proofs Go.Proofs.YthifnahfcbgnoaaDoorEng Go.RowKit

theorem some_i {A : Addr} {K : Addr → Prop} (h : K A) : wSome (some A) K := h
/-- a reader: the text, the place, the words -/
def Rd (w : World) (r : Nat) (t : List UInt8) (k : Nat) (a : Option Addr) (n c : Nat) : Prop := w.heap[r]? = some (.cells #[.string (bs t), .int .i64 (k : Int), .slice a n c] 47 (0, 0))
variable {w : World} {r k n c : Nat} {t : List UInt8} {a : Option Addr}
theorem Rd.s (h : Rd w r t k a n c) : w.cell? (addK ⟨r, 0, none⟩ 0) = some (.string (bs t)) := by rw [addK_lit, cell_blk h]; rfl
theorem Rd.at_ (h : Rd w r t k a n c) : w.cell? (addK ⟨r, 0, none⟩ 1) = some (.int .i64 (k : Int)) := by rw [addK_lit, cell_blk h]; rfl
theorem Rd.l (h : Rd w r t k a n c) : w.cell? (addK ⟨r, 0, none⟩ 2) = some (.slice a n c) := by rw [addK_lit, cell_blk h]; rfl
theorem Rd.chg {w' : World} (h : Rd w r t k a n c) (hc : Chg NoS w w') : Rd w' r t k a n c := hc.blk h fun x => x
theorem Rd.drew (h : Rd w r t k a n c) : Rd w.drew r t k a n c := h

def isAt (t : List UInt8) (k c : Nat) : Bool := decide (k < t.length ∧ g t k = c)
theorem beq_nat (a b : Nat) : ((a : Int) == (b : Int)) = decide (a = b) := by
  by_cases h : a = b
  · subst h; simp
  · have : ¬ (a : Int) = b := by omega
    simp [h, this]
theorem is_ok (h : Rd w r t k a n c) (j b : Nat) : Calls Tryd.prog 24 #[.pointer (some ⟨r, 0, none⟩), .int .i64 (j : Int), .int .u8 (b : Int)] w (endW (Says (isAt t j b) w) (fun _ _ => False)) := by
  refine F24_calls _ _ _ ?_
  delta F24
  refine some_i ⟨_, h.s, ?_⟩
  rw [bs_size]
  by_cases hl : j < t.length
  · rw [if_pos (by simp; omega)]
    refine some_i ⟨_, h.s, by omega, by rw [bs_size]; omega, ?_⟩
    rw [g_at, beq_nat]
    exact says_of (by simp [isAt, hl])
  · rw [if_neg (by simp; omega)]
    exact says_of (by simp [isAt, hl])
theorem span18_ok (h : Rd w r t k a n c) (j : Nat) (hj : j ≤ t.length) (ht : t.length ≤ 65536) : Calls Tryd.prog 21 #[.pointer (some ⟨r, 0, none⟩), .int .i64 (j : Int), .func (.func 18) #[] #[]] w (endW (fun v w' => v = .int .i64 (span isDig t j : Nat) ∧ w' = w) (fun _ _ => False)) := by
  refine F21x18_calls _ _ ?_
  delta F21x18
  refine ⟨fun s w' => ∃ i : Nat, s = (i : Int) ∧ i ≤ t.length ∧ span isDig t i = span isDig t j ∧ w' = w, fun s _ => (t.length - s).toNat, ⟨(j : Int), ⟨rfl, trivial⟩, j, rfl, hj, rfl, rfl⟩, ?_⟩
  rintro s w1 ⟨i, rfl, hi, he, rfl⟩ _
  refine some_i ⟨_, h.s, ?_⟩
  rw [bs_size]
  by_cases hl : i < t.length
  · rw [if_pos (by simp; omega)]
    refine some_i ⟨_, h.s, by omega, by rw [bs_size]; omega, ?_⟩
    rw [g_at]
    refine Calls.then (digit_ok w1 _) ?_
    rintro v w2 ⟨rfl, rfl⟩
    refine ⟨_, rfl, ?_⟩
    refine ite_both (fun h1 => ?_) (fun h1 => ?_)
    · exact ⟨((i + 1 : Nat) : Int), ⟨by rw [i64w _ (by omega) (by omega)]; rfl, trivial⟩, ⟨i + 1, rfl, by omega, by rw [← span_go hl h1]; exact he, rfl⟩, by dsimp only; omega⟩
    · exact ⟨by rw [← he, span_no (fun h => h1 h.2)], rfl⟩
  · rw [if_neg (by simp; omega)]
    exact ⟨by rw [← he, span_no (fun h => hl h.1)], rfl⟩
theorem span22_ok (h : Rd w r t k a n c) (j : Nat) (hj : j ≤ t.length) (ht : t.length ≤ 65536) : Calls Tryd.prog 21 #[.pointer (some ⟨r, 0, none⟩), .int .i64 (j : Int), .func (.func 22) #[] #[]] w (endW (fun v w' => v = .int .i64 (span isAl t j : Nat) ∧ w' = w) (fun _ _ => False)) := by
  refine F21x22_calls _ _ ?_
  delta F21x22
  refine ⟨fun s w' => ∃ i : Nat, s = (i : Int) ∧ i ≤ t.length ∧ span isAl t i = span isAl t j ∧ w' = w, fun s _ => (t.length - s).toNat, ⟨(j : Int), ⟨rfl, trivial⟩, j, rfl, hj, rfl, rfl⟩, ?_⟩
  rintro s w1 ⟨i, rfl, hi, he, rfl⟩ _
  refine some_i ⟨_, h.s, ?_⟩
  rw [bs_size]
  by_cases hl : i < t.length
  · rw [if_pos (by simp; omega)]
    refine some_i ⟨_, h.s, by omega, by rw [bs_size]; omega, ?_⟩
    rw [g_at]
    refine Calls.then (alnum_ok w1 _) ?_
    rintro v w2 ⟨rfl, rfl⟩
    refine ⟨_, rfl, ?_⟩
    refine ite_both (fun h1 => ?_) (fun h1 => ?_)
    · exact ⟨((i + 1 : Nat) : Int), ⟨by rw [i64w _ (by omega) (by omega)]; rfl, trivial⟩, ⟨i + 1, rfl, by omega, by rw [← span_go hl h1]; exact he, rfl⟩, by dsimp only; omega⟩
    · exact ⟨by rw [← he, span_no (fun h => h1 h.2)], rfl⟩
  · rw [if_neg (by simp; omega)]
    exact ⟨by rw [← he, span_no (fun h => hl h.1)], rfl⟩
theorem span36_ok (h : Rd w r t k a n c) (j : Nat) (hj : j ≤ t.length) (ht : t.length ≤ 65536) : Calls Tryd.prog 21 #[.pointer (some ⟨r, 0, none⟩), .int .i64 (j : Int), .func (.func 36) #[] #[]] w (endW (fun v w' => v = .int .i64 (span isHex t j : Nat) ∧ w' = w) (fun _ _ => False)) := by
  refine F21x36_calls _ _ ?_
  delta F21x36
  refine ⟨fun s w' => ∃ i : Nat, s = (i : Int) ∧ i ≤ t.length ∧ span isHex t i = span isHex t j ∧ w' = w, fun s _ => (t.length - s).toNat, ⟨(j : Int), ⟨rfl, trivial⟩, j, rfl, hj, rfl, rfl⟩, ?_⟩
  rintro s w1 ⟨i, rfl, hi, he, rfl⟩ _
  refine some_i ⟨_, h.s, ?_⟩
  rw [bs_size]
  by_cases hl : i < t.length
  · rw [if_pos (by simp; omega)]
    refine some_i ⟨_, h.s, by omega, by rw [bs_size]; omega, ?_⟩
    rw [g_at]
    refine Calls.then (hex_ok w1 _) ?_
    rintro v w2 ⟨rfl, rfl⟩
    refine ⟨_, rfl, ?_⟩
    refine ite_both (fun h1 => ?_) (fun h1 => ?_)
    · exact ⟨((i + 1 : Nat) : Int), ⟨by rw [i64w _ (by omega) (by omega)]; rfl, trivial⟩, ⟨i + 1, rfl, by omega, by rw [← span_go hl h1]; exact he, rfl⟩, by dsimp only; omega⟩
    · exact ⟨by rw [← he, span_no (fun h => h1 h.2)], rfl⟩
  · rw [if_neg (by simp; omega)]
    exact ⟨by rw [← he, span_no (fun h => hl h.1)], rfl⟩
theorem wrong_ok (h : Rd w r t k a n c) (e j : Nat) (hk : k ≤ j) (hj : j ≤ t.length) : Calls Tryd.prog 23 #[.pointer (some ⟨r, 0, none⟩), .int .i64 (e : Int), .int .i64 (j : Int)] w (endW (fun v w' => ∃ b, v = .pointer (some ⟨b, 0, none⟩) ∧ w.heap.size ≤ b ∧ w'.heap[b]? = some (.cells #[.int .i64 (e : Int), .int .i64 (k : Int), .string (bs (cut t k j))] 44 (0, 0)) ∧ Chg NoS w w') (fun _ _ => False)) := by
  refine F23_calls _ _ _ ?_
  delta F23
  refine some_i (some_i (some_i ⟨_, h.drew.at_, _, h.drew.s, _, h.drew.at_, by omega, by rw [bs_size]; omega, by omega, by rw [Int.toNat_natCast]; omega, ?_⟩))
  rw [Int.toNat_natCast, Int.toNat_natCast, ext_cut]
  exact ⟨_, rfl, by rw [size_drew]; omega, blk_alloc w.drew _, (chg_drew w NoS).trans (chg_alloc w.drew _ _)⟩

/-! ### six pairs -/
def pr (t : List UInt8) (i at_ n : Nat) : Option (Nat × Nat) :=
  if i < 6 then (if (i = 0 ∨ isAt t at_ 58 = true) ∧ (if i = 0 then at_ else at_ + 1) + 2 ≤ t.length ∧ isHex (g t (if i = 0 then at_ else at_ + 1)) = true ∧ isHex (g t ((if i = 0 then at_ else at_ + 1) + 1)) = true then
    pr t (i + 1) ((if i = 0 then at_ else at_ + 1) + 2) (n * 256 + (hv (g t (if i = 0 then at_ else at_ + 1)) * 16 + hv (g t ((if i = 0 then at_ else at_ + 1) + 1)))) else none) else some (n, at_)
termination_by 6 - i
def pairsAt (t : List UInt8) (k : Nat) : Option (Nat × Nat) := pr t 0 k 0
theorem pr_end {t : List UInt8} {at_ n : Nat} : pr t 6 at_ n = some (n, at_) := by rw [pr, if_neg (by omega)]
theorem pr_go {t : List UInt8} {i at_ n b : Nat} (hi : i < 6) (hb : b = if i = 0 then at_ else at_ + 1) (h1 : i = 0 ∨ isAt t at_ 58 = true) (h2 : b + 2 ≤ t.length) (h3 : isHex (g t b) = true) (h4 : isHex (g t (b + 1)) = true) :
    pr t i at_ n = pr t (i + 1) (b + 2) (n * 256 + (hv (g t b) * 16 + hv (g t (b + 1)))) := by
  subst hb
  rw [pr, if_pos hi, if_pos ⟨h1, h2, h3, h4⟩]
theorem pr_no {t : List UInt8} {i at_ n b : Nat} (hi : i < 6) (hb : b = if i = 0 then at_ else at_ + 1) (h : ¬ ((i = 0 ∨ isAt t at_ 58 = true) ∧ b + 2 ≤ t.length ∧ isHex (g t b) = true ∧ isHex (g t (b + 1)) = true)) : pr t i at_ n = none := by
  subst hb
  rw [pr, if_pos hi, if_neg h]
theorem pr_le {t : List UInt8} {i at_ n m e : Nat} (h : pr t i at_ n = some (m, e)) (hl : at_ ≤ t.length) : at_ ≤ e ∧ e ≤ t.length ∧ (i < 6 → at_ < e) := by
  by_cases hi : i < 6
  · generalize hb : (if i = 0 then at_ else at_ + 1) = b
    have hbl : at_ ≤ b := by subst hb; split <;> omega
    by_cases hc : (i = 0 ∨ isAt t at_ 58 = true) ∧ b + 2 ≤ t.length ∧ isHex (g t b) = true ∧ isHex (g t (b + 1)) = true
    · rw [pr_go hi hb.symm hc.1 hc.2.1 hc.2.2.1 hc.2.2.2] at h
      have := pr_le h hc.2.1
      omega
    · rw [pr_no hi hb.symm hc] at h
      cases h
  · rw [pr, if_neg hi] at h
    injection h with h
    injection h with h1 h2
    subst h2
    exact ⟨Nat.le_refl _, hl, fun h => by omega⟩
termination_by 6 - i
theorem or_low {n x k : Nat} (hk : k ≤ 64) (hx : x < 2 ^ k) (hn : n * 2 ^ k < 2 ^ 64) : (BitVec.ofInt 64 ((n * 2 ^ k : Nat) : Int) ||| BitVec.ofInt 64 (x : Int)).toNat = n * 2 ^ k + x := by
  have hx2 : x < 2 ^ 64 := Nat.lt_of_lt_of_le hx (Nat.pow_le_pow_right (by omega) hk)
  rw [BitVec.toNat_or]
  have e1 : (BitVec.ofInt 64 ((n * 2 ^ k : Nat) : Int)).toNat = n * 2 ^ k := by
    generalize n * 2 ^ k = q at hn ⊢
    rw [BitVec.toNat_ofInt]
    omega
  have e2 : (BitVec.ofInt 64 (x : Int)).toNat = x := by rw [BitVec.toNat_ofInt]; omega
  rw [e1, e2, ← Nat.shiftLeft_eq, Nat.shiftLeft_add_eq_or_of_lt hx]
theorem g_cut2 {t : List UInt8} {b : Nat} (h : b + 2 ≤ t.length) : cut t b (b + 2) = [UInt8.ofNat (g t b), UInt8.ofNat (g t (b + 1))] := by
  have h1 : t[b]? = some (t[b]'(by omega)) := List.getElem?_eq_getElem _
  have h2 : t[b + 1]? = some (t[b + 1]'(by omega)) := List.getElem?_eq_getElem _
  have hl : (cut t b (b + 2)).length = 2 := by rw [cut_length _ _ _ (by omega) h]; omega
  refine List.ext_getElem? fun j => ?_
  match j with
  | 0 => simp [cut, g, List.getD_eq_getElem?_getD, h1]
  | 1 => simp [cut, g, List.getD_eq_getElem?_getD, h2, List.getElem?_take]
  | j + 2 => simp [hl]
theorem vals2 {t : List UInt8} {b : Nat} (h : b + 2 ≤ t.length) : vals 16 (cut t b (b + 2)) = hv (g t b) * 16 + hv (g t (b + 1)) := by
  rw [g_cut2 h]
  have e1 : (UInt8.ofNat (g t b)).toNat = g t b := by have := g_lt t b; simp only [UInt8.toNat_ofNat']; omega
  have e2 : (UInt8.ofNat (g t (b + 1))).toNat = g t (b + 1) := by have := g_lt t (b + 1); simp only [UInt8.toNat_ofNat']; omega
  simp only [vals, List.foldl_cons, List.foldl_nil, e1, e2, Nat.zero_mul, Nat.zero_add]
/-- what pairs answers -/
def pairsV (o : Option (Nat × Nat)) : Value := match o with
  | some (m, e) => .tuple #[.int .i64 (e : Int), .int .u64 (m : Int), .bool true]
  | none => .tuple #[.int .i64 0, .int .u64 0, .bool false]
def rpairsV (o : Option (Nat × Nat)) : Value := match o with
  | some (m, e) => .tuple #[.int .u64 (m : Int), .int .i64 (e : Int), .bool true]
  | none => .tuple #[.int .u64 0, .int .i64 0, .bool false]
theorem pairs_ok (h : Rd w r t k a n c) (hk : k ≤ t.length) (ht : t.length ≤ 65536) (hE : Errs w) : Calls Tryd.prog 17 #[.pointer (some ⟨r, 0, none⟩)] w (endW (fun v w' => v = pairsV (pairsAt t k) ∧ Chg NoS w w') (fun _ _ => False)) := by
  refine F17_calls _ ?_
  delta F17
  refine some_i ⟨_, h.at_, ?_⟩
  refine ⟨fun s w' => ∃ i at_ m : Nat, s = ((m : Int), (at_ : Int), (i : Int)) ∧ i ≤ 6 ∧ at_ ≤ t.length ∧ m < 256 ^ i ∧ pr t i at_ m = pairsAt t k ∧ Chg NoS w w', fun s _ => (6 - s.2.2).toNat, ⟨(0, (k : Int), 0), ⟨rfl, rfl, rfl, trivial⟩, 0, k, 0, rfl, by omega, hk, by omega, rfl, Chg.refl _ _⟩, ?_⟩
  rintro _ w1 ⟨i, at_, m, rfl, hi, hat, hm, he, hc⟩ _
  dsimp only
  by_cases hlt : i < 6
  · rw [if_pos (by simp; omega)]
    have hm48 : m < 2 ^ 40 := Nat.lt_of_lt_of_le hm (by
      have : 256 ^ i ≤ 256 ^ 5 := Nat.pow_le_pow_right (by omega) (by omega)
      omega)
    have hm48' : m < 1099511627776 := hm48
    generalize hb : (if i = 0 then at_ else at_ + 1) = b
    have no : ∀ w' : World, Chg NoS w w' → ¬ ((i = 0 ∨ isAt t at_ 58 = true) ∧ b + 2 ≤ t.length ∧ isHex (g t b) = true ∧ isHex (g t (b + 1)) = true) → Value.tuple #[.int .i64 0, .int .u64 0, .bool false] = pairsV (pairsAt t k) ∧ Chg NoS w w' := fun w' hc hn => ⟨by rw [← he, pr_no hlt hb.symm hn]; rfl, hc⟩
    refine ⟨fun s w' => s = ((m : Int), (b : Int)) ∧ (i = 0 ∨ isAt t at_ 58 = true) ∧ b ≤ t.length ∧ Chg NoS w w', ?_, ?_⟩
    · rintro _ w2 ⟨rfl, hcol, hbl, hc2⟩ _
      have h2 := h.chg hc2
      refine ⟨fun s w' => s = (m : Int) ∧ b + 2 ≤ t.length ∧ isHex (g t b) = true ∧ isHex (g t (b + 1)) = true ∧ Chg NoS w w', ?_, ?_⟩
      · rintro _ w3 ⟨rfl, hle, hx1, hx2, hc3⟩ _
        have h3 := h.chg hc3
        have e2 : IntKind.wrap .i64 ((b : Int) + 2) = ((b + 2 : Nat) : Int) := by rw [i64w _ (by omega) (by omega)]; rfl
        dsimp only
        rw [e2]
        refine some_i ⟨_, h3.s, by omega, by rw [bs_size]; omega, by omega, by rw [Int.toNat_natCast]; omega, ?_⟩
        rw [Int.toNat_natCast, Int.toNat_natCast, ext_cut]
        have l1 := hv_lt hx1
        have l2 := hv_lt hx2
        refine Calls.then (Parse_ok w3 (cut t b (b + 2)) 16 8 (.inr rfl) (.inl rfl) (fun j hj => ?_) (by rw [cut_length _ _ _ (by omega) hle]; omega) (hE.chg hc3)) ?_
        · rw [cut_length _ _ _ (by omega) hle] at hj
          rw [cut_get _ _ _ _ (by omega)]
          have : j = 0 ∨ j = 1 := by omega
          rcases this with rfl | rfl
          · exact hx1
          · exact hx2
        rintro v w4 ⟨hv', hc4⟩
        rw [vals2 hle] at hv'
        have hne : cut t b (b + 2) ≠ [] := fun e => by
          have := cut_length t b (b + 2) (by omega) hle
          rw [e] at this
          simp at this
        rcases hv' with ⟨_, _, rfl⟩ | ⟨hn, _⟩
        · refine ⟨_, rfl, _, _, rfl, _, rfl, _, _, rfl, rfl, by omega, ?_⟩
          have e3 : IntKind.wrap .u64 ((m : Int) * (2 : Int) ^ 8) = ((m * 2 ^ 8 : Nat) : Int) := by rw [wrap_u64]; omega
          rw [e3, or_low (k := 8) (by omega) (by omega) (by omega), wrap_u64]
          refine ⟨(((m * 256 + (hv (g t b) * 16 + hv (g t (b + 1))) : Nat) : Int), ((b + 2 : Nat) : Int), ((i + 1 : Nat) : Int)), ⟨?_, rfl, by rw [i64w _ (by omega) (by omega)]; rfl, trivial⟩, ⟨i + 1, b + 2, _, rfl, by omega, hle, ?_, ?_, hc3.trans hc4⟩, by dsimp only; omega⟩
          · dsimp only
            congr 1
            omega
          · rw [Nat.pow_succ]
            omega
          · rw [← pr_go hlt hb.symm hcol hle hx1 hx2]
            exact he
        · exact absurd ⟨hne, by unfold maxOf; rw [if_neg (by decide)]; omega⟩ hn
      · dsimp only
        refine some_i ⟨_, h2.s, ?_⟩
        have e2 : IntKind.wrap .i64 ((b : Int) + 2) = ((b + 2 : Nat) : Int) := by rw [i64w _ (by omega) (by omega)]; rfl
        have e1 : IntKind.wrap .i64 ((b : Int) + 1) = ((b + 1 : Nat) : Int) := by rw [i64w _ (by omega) (by omega)]; rfl
        rw [e2, e1, bs_size]
        by_cases hle : b + 2 ≤ t.length
        · rw [if_pos (by simp; omega)]
          refine some_i ⟨_, h2.s, by omega, by rw [bs_size]; omega, ?_⟩
          rw [g_at]
          refine Calls.then (hex_ok w2 _) ?_
          rintro v w3 ⟨rfl, rfl⟩
          refine ⟨_, rfl, ?_⟩
          refine ite_both (fun hx => ?_) (fun hx => ?_)
          · simp at hx
            refine some_i ⟨_, h2.s, by omega, by rw [bs_size]; omega, ?_⟩
            rw [g_at]
            refine Calls.then (hex_ok w3 _) ?_
            rintro v w4 ⟨rfl, rfl⟩
            refine ⟨_, rfl, ?_⟩
            refine ite_both (fun hy => ?_) (fun hy => ?_)
            · simp at hy
              exact no w4 hc2 (fun hh => by rw [hy] at hh; exact absurd hh.2.2.2 (by decide))
            · simp at hy
              exact ⟨(m : Int), ⟨rfl, trivial⟩, rfl, hle, hx, hy, hc2⟩
          · simp at hx
            exact no w3 hc2 (fun hh => by rw [hx] at hh; exact absurd hh.2.2.1 (by decide))
        · rw [if_neg (by simp; omega)]
          exact no w2 hc2 (fun hh => hle hh.2.1)
    · by_cases hi0 : i = 0
      · rw [if_neg (by simp; omega)]
        rw [if_pos hi0] at hb
        subst hb
        exact ⟨((m : Int), (at_ : Int)), ⟨rfl, rfl, trivial⟩, rfl, .inl hi0, hat, hc⟩
      · rw [if_pos (by simp; omega)]
        rw [if_neg hi0] at hb
        subst hb
        refine Calls.then (is_ok (h.chg hc) at_ 58) ?_
        rintro v w2 ⟨rfl, rfl⟩
        refine ⟨_, rfl, ?_⟩
        refine ite_both (fun hx => ?_) (fun hx => ?_)
        · simp at hx
          exact no w2 hc (fun hh => by rw [hx] at hh; rcases hh.1 with h | h; exact hi0 h; cases h)
        · simp at hx
          have hx2 := hx
          simp [isAt] at hx2
          exact ⟨((m : Int), ((at_ + 1 : Nat) : Int)), ⟨rfl, by rw [i64w _ (by omega) (by omega)]; rfl, trivial⟩, rfl, .inr hx, by omega, hc⟩
  · rw [if_neg (by simp; omega)]
    have : i = 6 := by omega
    subst this
    rw [pr_end] at he
    refine ⟨?_, hc⟩
    rw [← he]
    rfl
end Go.Proofs.YthifnahfcbgnoaaDoor.B
