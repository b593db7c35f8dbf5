/-
  header: hex; FormatUint, Digits, Hex.
-/
import Derived.Test.YtjbgckpalaodaaaDoorHdC
import Derived.WalkSmall
set_option maxRecDepth 100000
set_option linter.unusedVariables false
set_option linter.unusedSimpArgs false
namespace Go.Proofs.YtjbgckpalaodaaaDoor.B
open Go Go.Proofs Go.Proofs.YtjbgckpalaodaaaDoorEng Go.RowKit

def hexTab : List UInt8 := [48, 49, 50, 51, 52, 53, 54, 55, 56, 57, 97, 98, 99, 100, 101, 102]
def hexc (k : Nat) : UInt8 := hexTab.getD k 0
/-- the d lowest hexadecimal digits, the highest first -/
def hexs (n : Nat) : Nat → List UInt8
  | 0 => []
  | d + 1 => hexc (n / 16 ^ d % 16) :: hexs n d
theorem hexs_length (n : Nat) : ∀ d, (hexs n d).length = d
  | 0 => rfl
  | d + 1 => by simp [hexs, hexs_length n d]
theorem and_low {m : Nat} (k : Nat) (hk : k ≤ 63) (hm : m < 18446744073709551616) {z : Int} (hz : z = ((2 ^ k - 1 : Nat) : Int)) : (BitVec.ofInt 64 (m : Int) &&& BitVec.ofInt 64 z).toNat = m % 2 ^ k := by
  subst hz
  have h2 : 2 ^ k ≤ 2 ^ 63 := Nat.pow_le_pow_right (by omega) hk
  have h3 : 0 < 2 ^ k := Nat.two_pow_pos k
  have e1 : (BitVec.ofInt 64 (m : Int)).toNat = m := by rw [BitVec.toNat_ofInt]; omega
  have e2 : (BitVec.ofInt 64 ((2 ^ k - 1 : Nat) : Int)).toNat = 2 ^ k - 1 := by rw [BitVec.toNat_ofInt]; omega
  rw [BitVec.toNat_and, e1, e2]
  exact Nat.and_two_pow_sub_one_eq_mod m k
theorem fdiv_nat (n k : Nat) : Int.fdiv (n : Int) ((2 : Int) ^ k) = ((n / 2 ^ k : Nat) : Int) := by
  rw [Int.fdiv_eq_ediv_of_nonneg _ (Int.pow_nonneg (by omega))]
  push_cast
  rfl
theorem w64 (n : Nat) (h : n < 18446744073709551616) : IntKind.wrap .u64 (n : Int) = (n : Int) := by rw [IntKind.wrap_u64]; omega
theorem vals_cells (l : List UInt8) : vals l = Lib.byteCells l := rfl
theorem hexTab_byte (k : Nat) : byteAt (bs hexTab) (k : Int) = ((hexc k).toNat : Int) := byteAt_bs _ _
theorem pow16 (j : Nat) : 2 ^ (4 * j) = 16 ^ j := by rw [Nat.pow_mul]

theorem hex_ok (w : World) (n d : Nat) (hn : n < 18446744073709551616) (hd : d ≤ 16) :
    Calls Tryd.prog 17 #[.int .u64 (n : Int), .int .i64 (d : Int)] w (endW (fun v w' => v = .string (bs (hexs n d)) ∧ Chg NoS w w') (fun _ _ => False)) := by
  refine F17_calls _ _ ?_
  delta F17
  have hB0 : Below w.heap.size w (w.alloc (.cells #[.pointer none, .slice none 0 0] 50)) := (chg_alloc w _ NoS).below (Nat.le_refl _) fun _ _ x => x
  refine ⟨fun s w' => ∃ (j : Nat) (l : List UInt8), s = 4 * (j : Int) - 4 ∧ j ≤ d ∧ Lib.IsBuilder 50 5 w.heap.size w.heap.size (vals l) w' ∧ Below w.heap.size w w' ∧ l ++ hexs n j = hexs n d, fun s _ => (s + 4).toNat, ⟨4 * (d : Int) - 4, ⟨?_, trivial⟩, d, [], rfl, Nat.le_refl _, Lib.fresh_isBuilder 50 5 w, hB0, rfl⟩, ?_⟩
  · rw [i64w ((d : Int) - 1) (by omega) (by omega), i64w _ (by omega) (by omega)]
    congr 1
    omega
  rintro s w1 ⟨j, l, rfl, hj, hb, hbel, heq⟩ _
  cases j with
  | zero =>
    rw [if_neg (by simp)]
    refine Calls.mono (Tryd.Builder_String_any _ _ l w1 hb hbel.size) ?_
    rintro e w2 ⟨rfl, hbel2⟩
    refine ⟨_, rfl, ?_, below_new (hbel.trans hbel2)⟩
    rw [← heq]
    simp [hexs]
  | succ j =>
    rw [if_pos (by simp; omega)]
    have es : IntKind.wrap .u64 (4 * ((j + 1 : Nat) : Int) - 4) = ((4 * j : Nat) : Int) := by rw [show 4 * ((j + 1 : Nat) : Int) - 4 = ((4 * j : Nat) : Int) from by omega, w64 _ (by omega)]
    have hq : n / 2 ^ (4 * j) < 18446744073709551616 := Nat.lt_of_le_of_lt (Nat.div_le_self _ _) hn
    rw [es, Int.toNat_natCast, Nat.min_eq_left (by omega), fdiv_nat, and_low 4 (by omega) hq (z := 15) rfl, pow16]
    have hlt : n / 16 ^ j % 2 ^ 4 < 16 := Nat.mod_lt _ (by omega)
    rw [w64 _ (by omega)]
    have hll := congrArg List.length heq
    rw [List.length_append, hexs_length, hexs_length] at hll
    refine ⟨by omega, by omega, by omega, ?_⟩
    show Calls _ _ #[_, .int .u8 (byteAt (bs hexTab) _)] _ _
    rw [hexTab_byte]
    refine Calls.then (WriteByte_ok _ _ l _ w1 hb (by omega) hbel.size) ?_
    rintro v w2 ⟨hb2, hbel2⟩
    refine ⟨4 * (j : Int) - 4, ⟨by rw [i64w _ (by omega) (by omega)]; congr 1; omega, trivial⟩, ⟨j, l ++ [hexc (n / 16 ^ j % 2 ^ 4)], rfl, by omega, .inr hb2, hbel.trans hbel2, ?_⟩, by dsimp only; omega⟩
    rw [List.append_assoc]
    exact heq

/-! ### decimal digits -/
/-- the table of the powers of ten -/
def Tab (w : World) : Prop := ∀ i, i < 20 → w.cell? ⟨0, i, none⟩ = some (.int .u64 ((10 ^ i : Nat) : Int))
theorem Tab.chg {w w' : World} (h : Tab w) (hc : Chg NoS w w') : Tab w' := fun i hi => hc.sameOld.cell (h i hi)
theorem small_ok (w : World) (n : Nat) (hn : n < 100) : Calls Tryd.prog 35 #[.int .i64 (n : Int)] w (endW (fun v w' => v = .string (bs (Lib.decDigits n)) ∧ w' = w) (fun _ _ => False)) := by
  refine F35_calls _ ?_
  delta F35
  by_cases h : n < 10
  · rw [if_pos (by simp; omega), i64w ((n : Int) + 1) (by omega) (by omega)]
    refine ⟨by omega, by omega, by omega, by omega, ?_, rfl⟩
    show Value.string (ByteArray.extract Lib.digits36 _ _) = _
    rw [← bs_data Lib.digits36, bs_extract, show ((n : Int) + 1).toNat = n + 1 from by omega, Int.toNat_natCast, Lib.digits36_piece h]
  · rw [if_neg (by simp; omega), i64w ((n : Int) * 2) (by omega) (by omega), i64w ((n : Int) * 2 + 2) (by omega) (by omega)]
    refine ⟨by omega, by omega, by omega, by omega, ?_, rfl⟩
    show Value.string (ByteArray.extract Lib.smalls _ _) = _
    rw [← bs_data Lib.smalls, bs_extract, show ((n : Int) * 2 + 2).toNat = n * 2 + 2 from by omega, show ((n : Int) * 2).toNat = n * 2 from by omega, Lib.smalls_piece h hn]
theorem log10_ok (w : World) (L : Nat) (hL : L ≤ 64) : Calls Tryd.prog 40 #[.int .i64 (L : Int)] w (endW (fun v w' => v = .int .i64 (Lib.l10 L : Nat) ∧ w' = w) (fun _ _ => False)) := by
  refine F40_calls _ ?_
  delta F40
  refine ⟨by omega, ?_, rfl⟩
  rw [i64w _ (by omega) (by omega), show (L : Int) * 78913 = ((L * 78913 : Nat) : Int) from by omega, fdiv_nat]
  rfl
theorem numDigits_ok (w : World) (n : Nat) (h1 : 1 ≤ n) (h2 : n < 18446744073709551616) (hT : Tab w) : Calls Tryd.prog 36 #[.int .u64 (n : Int)] w (endW (fun v w' => v = .int .i64 (Lib.nDigits n : Nat) ∧ w' = w) (fun _ _ => False)) := by
  refine F36_calls _ ?_
  delta F36
  obtain ⟨e1, e2⟩ := Lib.numDigits_eq n h1 h2
  have hbl : Lib.bitLen n ≤ 64 := Lib.bitLen_le n 64 (Nat.le_refl _) h2
  refine Calls.mono (Tryd.bits_Len64 n w (by omega) (by omega)) ?_
  rintro e w1 ⟨rfl, rfl⟩
  refine ⟨_, rfl, ?_⟩
  rw [Int.toNat_natCast]
  refine Calls.then (log10_ok w1 _ hbl) ?_
  rintro v w2 ⟨rfl, rfl⟩
  refine ⟨_, rfl, by omega, by omega, _, by rw [addK_lit, Nat.zero_add, Int.toNat_natCast, Nat.mul_one]; exact hT _ (by omega), ?_⟩
  have hb : ∀ b : Bool, Calls Tryd.prog 42 #[.bool b] w2 (endW (fun v w' => v = .int .i64 (if b then 1 else 0) ∧ w' = w2) (fun _ _ => False)) := fun b => by
    refine F42_calls _ ?_
    delta F42
    cases b
    · exact ⟨rfl, rfl⟩
    · exact ⟨rfl, rfl⟩
  refine Calls.then (hb _) ?_
  rintro v w3 ⟨rfl, rfl⟩
  refine ⟨_, rfl, ?_, rfl⟩
  rw [← e1]
  by_cases hp : 10 ^ Lib.l10 (Lib.bitLen n) ≤ n
  · rw [if_pos hp, if_pos (decide_eq_true (Int.ofNat_le.2 hp)), i64w _ (by omega) (by omega)]; rfl
  · rw [if_neg hp, if_neg (fun h => hp (Int.ofNat_le.1 (of_decide_eq_true h))), i64w _ (by omega) (by omega)]; rfl

theorem drewN_chg (w : World) (n : Nat) : Chg NoS w (w.drewN n) := below_new (below_drewN (Below.refl w.heap.size w) n)
theorem putRow_chg {w : World} {b off : Nat} {d : Array UInt8} (n : Nat) : Chg (OnlyB b) w ((Sort.putRow (fun (b : UInt8) => Value.int .u8 (b.toNat : Int)) w b off d).drewN n) := by
  have h1 : Chg (OnlyB b) w (Sort.putRow (fun (b : UInt8) => Value.int .u8 (b.toNat : Int)) w b off d) := ⟨rfl, rfl, rfl, by simp, fun k hk hs => by
    have : ¬ b = k := fun e => hs e.symm
    simp [Sort.putRow, Sort.mapBlock, Array.getElem?_modify, this]⟩
  refine h1.trans ?_
  exact (drewN_chg _ n).mono fun k _ h => h.elim
theorem nDigits_le (n : Nat) (h : n < 18446744073709551616) : Lib.nDigits n ≤ 20 := by
  have h1 : 1 ≤ n ∨ n = 0 := by omega
  rcases h1 with h1 | rfl
  · obtain ⟨a, b⟩ := Lib.numDigits_eq n h1 h
    split at a <;> omega
  · rw [Lib.nDigits_small (by omega)]; omega
theorem fmt_ok (w : World) (n : Nat) (hn : n < 18446744073709551616) (hT : Tab w) : Calls Tryd.prog 32 #[.int .u64 (n : Int), .int .i64 10] w (endW (fun v w' => v = .string (bs (Lib.decDigits n)) ∧ Chg NoS w w') (fun _ _ => False)) := by
  refine F32_calls _ _ ?_
  delta F32
  rw [if_pos (by decide)]
  by_cases h : n < 100
  · rw [if_pos (by simp; omega), i64w _ (by omega) (by omega)]
    refine Calls.then (small_ok w n h) ?_
    rintro v w1 ⟨rfl, rfl⟩
    exact ⟨_, rfl, rfl, Chg.refl _ _⟩
  rw [if_neg (by simp; omega)]
  have hb := blk_alloc w (.cells Lib.zeros24 63)
  have hc := chg_alloc w (.cells Lib.zeros24 63) NoS
  show Calls _ _ _ (w.alloc (.cells Lib.zeros24 63)) _
  generalize hw1 : w.alloc (.cells Lib.zeros24 63) = w1 at hb hc ⊢
  refine Calls.then (numDigits_ok w1 n (by omega) hn (hT.chg hc)) ?_
  rintro v w2 ⟨rfl, rfl⟩
  have hnd := nDigits_le n hn
  have hnp := Lib.nDigits_pos n
  refine ⟨_, rfl, by omega, by omega, ?_⟩
  have haddr : (if (24 : Nat) = 0 then (⟨w.heap.size, 0, none⟩ : Addr) else addK ⟨w.heap.size, 0, none⟩ 0) = ⟨w.heap.size, 0, none⟩ := by rw [if_neg (by omega), addK_lit]
  rw [haddr, Int.toNat_natCast, Nat.sub_zero]
  have hH : Sort.Holds (fun (b : UInt8) => Value.int .u8 (b.toNat : Int)) w2 w.heap.size 0 (Array.replicate (Lib.nDigits n) (0 : UInt8)) := fun j hj => by
    rw [Array.size_replicate] at hj
    refine ⟨?_, frozen_blk hb _ none⟩
    rw [cell_blk hb, Nat.zero_add, Lib.zeros24_at j (by omega)]
    simp [hj]
  have hpow : n < 10 ^ (Array.replicate (Lib.nDigits n) (0 : UInt8)).size := by rw [Array.size_replicate]; exact Lib.lt_pow_nDigits n
  have hfb := Tryd.internal_strconv_formatBase10 w.heap.size 0 24 n _ w2 hH hpow hn (by rw [Array.size_replicate]; omega)
  rw [Array.size_replicate] at hfb
  refine Calls.mono hfb ?_
  rintro e w3 ⟨rfl, m, v', dk, rfl, hinv⟩
  refine ⟨by omega, by omega, ?_⟩
  have hch := putRow_chg (w := w2) (b := w.heap.size) (off := 0) (d := dk) m
  have hlen := Lib.decDigits_length n
  refine bytes_str (bs := Lib.decDigits n) ByteT' Tryd.underlying9 (by omega) ?_ ?_
  · intro j u hu
    have hj : j < (Lib.decDigits n).length := by have := (List.getElem?_eq_some_iff.1 hu).1; rwa [vals_length] at this
    rw [vals_get hj] at hu
    injection hu with hu
    subst hu
    refine ⟨_, rfl, ?_⟩
    rw [addK_lit, Nat.zero_add]
    have hds := hinv.size
    have hcell := Sort.cell?_putRow (fun (b : UInt8) => Value.int .u8 (b.toNat : Int)) w2 w.heap.size 0 _ dk hH (by rw [Array.size_replicate]; exact hds) j (by omega)
    rw [Nat.zero_add] at hcell
    rw [(drewN_chg _ m).sameOld.cell hcell, Lib.row_is_numeral hinv j hj]
  · refine ⟨_, rfl, rfl, hc.trans2 hch fun k hk e => ?_⟩
    have : k = w.heap.size := e
    omega
theorem FormatUint_ok (w : World) (n : Nat) (hn : n < 18446744073709551616) (hT : Tab w) : Calls Tryd.prog 27 #[.int .u64 (n : Int), .int .i64 10] w (endW (fun v w' => v = .string (bs (Lib.decDigits n)) ∧ Chg NoS w w') (fun _ _ => False)) := by
  refine F27_calls _ _ ?_
  delta F27
  refine Calls.then (fmt_ok w n hn hT) ?_
  rintro v w1 ⟨rfl, hc⟩
  exact ⟨_, rfl, rfl, hc⟩
end Go.Proofs.YtjbgckpalaodaaaDoor.B
