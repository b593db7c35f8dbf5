import Derived.Test.YtpolbdakhfcilaaGreatDoorBL
import Derived.Test.YtpolbdakhfcilaaGreatDoorEngR
import Derived.Test.YtpolbdakhfcilaaGreatDoorShelf
import Derived.Test.YtpolbdakhfcilaaGreatDoorEngV
import Derived.Test.YtpolbdakhfcilaaGreatDoorEngU
import Derived.Lib.Builder
import Derived.Lib.ItoaNum
import Derived.Lib.ItoaMem
import Derived.Lib.Join
import Derived.WalkKit
import Derived.Laws.Externs
import Derived.WalkSmall
/-
  header: the eleven fields; Width, Fits, Check, the program's and the document's.
-/
set_option maxRecDepth 100000
set_option linter.unusedVariables false
set_option linter.unusedSimpArgs false
namespace Go.Proofs.YtpolbdakhfcilaaGreatDoor.H
open Go.Proofs.YtpolbdakhfcilaaGreatDoor.B Go Go.Proofs Go.Proofs.YtpolbdakhfcilaaGreatDoorEng

theorem ite_both {c : Prop} [Decidable c] {A B : Prop} (h1 : c → A) (h2 : ¬ c → B) : if c then A else B := by
  by_cases h : c
  · rw [if_pos h]; exact h1 h
  · rw [if_neg h]; exact h2 h
abbrev HN := Nat → Nat
abbrev hvs (h : HN) : Array Value := #[.int .u64 (h 0), .int .u64 (h 1), .int .u64 (h 2), .int .u64 (h 3), .int .u64 (h 4), .int .u64 (h 5), .int .u64 (h 6), .int .u64 (h 7), .int .u64 (h 8), .int .u64 (h 9), .int .u64 (h 10)]
theorem hvs_get (h : HN) : ∀ k, k < 11 → (hvs h).toList[k]? = some (.int .u64 (h k))
  | 0, _ => rfl | 1, _ => rfl | 2, _ => rfl | 3, _ => rfl | 4, _ => rfl | 5, _ => rfl | 6, _ => rfl | 7, _ => rfl | 8, _ => rfl | 9, _ => rfl | 10, _ => rfl
  | k + 11, hk => by omega
def wids : List Nat := [48, 48, 16, 12, 32, 32, 8, 16, 16, 16, 16]
def wid (k : Nat) : Nat := wids.getD k 0
theorem wid_pos : ∀ k, k < 11 → 0 < wid k ∧ wid k ≤ 48
  | 0, _ => by decide | 1, _ => by decide | 2, _ => by decide | 3, _ => by decide | 4, _ => by decide | 5, _ => by decide | 6, _ => by decide | 7, _ => by decide | 8, _ => by decide | 9, _ => by decide | 10, _ => by decide
  | k + 11, hk => by omega
def widI (f : Int) : Nat := if 0 ≤ f ∧ f < 11 then wid f.toNat else 0
theorem wids_get : ∀ k, k < 11 → ([.int .i64 48, .int .i64 48, .int .i64 16, .int .i64 12, .int .i64 32, .int .i64 32, .int .i64 8, .int .i64 16, .int .i64 16, .int .i64 16, .int .i64 16] : List Value)[k]? = some (.int .i64 (wid k : Nat))
  | 0, _ => rfl | 1, _ => rfl | 2, _ => rfl | 3, _ => rfl | 4, _ => rfl | 5, _ => rfl | 6, _ => rfl | 7, _ => rfl | 8, _ => rfl | 9, _ => rfl | 10, _ => rfl
  | k + 11, hk => by omega

theorem widths_ok (w : World) : Calls Tryz.prog 77 #[] w (endW (fun v w' => v = .agg #[.int .i64 48, .int .i64 48, .int .i64 16, .int .i64 12, .int .i64 32, .int .i64 32, .int .i64 8, .int .i64 16, .int .i64 16, .int .i64 16, .int .i64 16] ∧ Chg NoS w w') (fun _ _ => False)) := by
  refine F77_calls ?_
  delta F77
  refine (sets_blk (b := w.heap.size) (t := 120) (cs := #[.int .i64 0, .int .i64 0, .int .i64 0, .int .i64 0, .int .i64 0, .int .i64 0, .int .i64 0, .int .i64 0, .int .i64 0, .int .i64 0, .int .i64 0]) (vs := [.int .i64 48, .int .i64 48, .int .i64 16, .int .i64 12, .int .i64 32, .int .i64 32, .int .i64 8, .int .i64 16, .int .i64 16, .int .i64 16, .int .i64 16]) (blk_alloc w (.cells #[.int .i64 0, .int .i64 0, .int .i64 0, .int .i64 0, .int .i64 0, .int .i64 0, .int .i64 0, .int .i64 0, .int .i64 0, .int .i64 0, .int .i64 0] 120)) rfl (by simp [oneC]) fun w' b' c' z' => ?_ : setsW _ _ _ _ _)
  have hc : ∀ k v, ([.int .i64 48, .int .i64 48, .int .i64 16, .int .i64 12, .int .i64 32, .int .i64 32, .int .i64 8, .int .i64 16, .int .i64 16, .int .i64 16, .int .i64 16] : List Value)[k]? = some v → w'.cell? (addK ⟨w.heap.size, 0, none⟩ k) = some v := fun k v hv => by
    rw [addK_lit, Nat.zero_add, cell_blk b']
    simpa using hv
  refine ⟨_, hc 0 _ rfl, _, hc 1 _ rfl, _, hc 2 _ rfl, _, hc 3 _ rfl, _, hc 4 _ rfl, _, hc 5 _ rfl, _, hc 6 _ rfl, _, hc 7 _ rfl, _, hc 8 _ rfl, _, hc 9 _ rfl, _, hc 10 _ rfl, rfl, ?_⟩
  exact (chg_alloc w _ _).trans2 c' fun k hk e => by
    have : k = w.heap.size := e
    omega

theorem Width_ok (w : World) (f : Int) : Calls Tryz.prog 53 #[.int .i8 f] w (endW (fun v w' => v = .int .i64 (widI f : Nat) ∧ Chg NoS w w') (fun _ _ => False)) := by
  refine F53_calls _ ?_
  delta F53
  by_cases h0 : f < 0
  · rw [if_neg (by simp; omega)]
    refine ⟨?_, Chg.refl _ _⟩
    unfold widI; rw [if_neg (by omega)]; rfl
  rw [if_pos (by simp; omega)]
  by_cases h1 : f ≥ 11
  · rw [if_pos (by simp; omega)]
    refine ⟨?_, Chg.refl _ _⟩
    unfold widI; rw [if_neg (by omega)]; rfl
  rw [if_neg (by simp; omega)]
  refine Calls.then (widths_ok w) ?_
  rintro v w1 ⟨rfl, hc⟩
  refine ⟨_, rfl, ?_⟩
  repeat (refine ⟨_, _, rfl, _, rfl, ?_⟩)
  refine ⟨rfl, by omega, by omega, by simp; omega, ?_⟩
  obtain ⟨k, rfl⟩ : ∃ k : Nat, f = (k : Int) := ⟨f.toNat, by omega⟩
  have hk : k < 11 := by omega
  have hw : widI (k : Int) = wid k := by unfold widI; rw [if_pos (by omega)]; rfl
  rw [Int.toNat_natCast, hw]
  have := wids_get k hk
  refine ⟨(wid k : Nat), ?_, rfl, hc⟩
  rw [this]


/-- a number that fits into a field -/
def fitsN (f : Int) (n : Nat) : Bool := decide (0 < widI f ∧ n < 2 ^ widI f)
theorem fits_val {k n : Nat} (hk : k ≤ 48) (h0 : 0 < k) : (Int.fdiv (n : Int) ((2 : Int) ^ min (IntKind.wrap .u64 (k : Int)).toNat 64) == 0) = decide (n < 2 ^ k) := by
  have e : IntKind.wrap .u64 (k : Int) = (k : Int) := u64w _ (by omega) (by omega)
  rw [e, Int.toNat_natCast, Nat.min_eq_left (by omega), Int.fdiv_eq_ediv_of_nonneg _ (Int.pow_nonneg (by omega))]
  have e2 : ((n : Int) / (2 : Int) ^ k) = ((n / 2 ^ k : Nat) : Int) := by push_cast; rfl
  rw [e2]
  have h2 : 0 < 2 ^ k := Nat.two_pow_pos k
  by_cases h : n < 2 ^ k
  · simp [Nat.div_eq_of_lt h, h]
  · have : 0 < n / 2 ^ k := Nat.div_pos (by omega) h2
    simp [h]
    omega
theorem widI_le (f : Int) : widI f ≤ 48 := by
  unfold widI
  split
  · exact (wid_pos _ (by omega)).2
  · omega
theorem Fits_ok (w : World) (f : Int) (n : Nat) : Calls Tryz.prog 30 #[.int .i8 f, .int .u64 n] w (endW (fun v w' => v = .bool (fitsN f n) ∧ Chg NoS w w') (fun _ _ => False)) := by
  refine F30_calls _ _ ?_
  delta F30
  refine Calls.then (Width_ok w f) ?_
  rintro v w1 ⟨rfl, hc⟩
  refine ⟨_, rfl, ?_⟩
  have hle := widI_le f
  by_cases h0 : 0 < widI f
  · rw [if_pos (by simp; omega)]
    refine ⟨by rw [u64w _ (by omega) (by omega)]; omega, ?_, hc⟩
    rw [fits_val hle h0]
    simp [fitsN, h0]
  · rw [if_neg (by simp; omega)]
    exact ⟨by simp [fitsN, h0], hc⟩

/-! ### a header -/
def okH (h : HN) : Prop := (∀ f, f < 11 → h f < 2 ^ wid f) ∧ h 2 ≠ 33024 ∧ ¬ h 2 < 1536 ∧ (h 2 = 2048 ∨ h 6 = 0) ∧ (h 2 = 2048 ∨ h 2 = 2054 ∨ (h 4 = 0 ∧ h 5 = 0)) ∧ ((h 2 = 2048 ∧ (h 6 = 6 ∨ h 6 = 17)) ∨ (h 7 = 0 ∧ h 8 = 0))
instance (h : HN) : Decidable (okH h) := by unfold okH; infer_instance
theorem fitsN_nat {k n : Nat} (hk : k < 11) : fitsN (k : Int) n = decide (n < 2 ^ wid k) := by
  have hw : widI (k : Int) = wid k := by unfold widI; rw [if_pos (by omega)]; rfl
  unfold fitsN
  rw [hw]
  simp [(wid_pos k hk).1]
end Go.Proofs.YtpolbdakhfcilaaGreatDoor.H

/-
  header: Check, the program's and the document's.
-/
set_option maxRecDepth 100000
set_option linter.unusedVariables false
set_option linter.unusedSimpArgs false
namespace Go.Proofs.YtpolbdakhfcilaaGreatDoor.H
open Go.Proofs.YtpolbdakhfcilaaGreatDoor.B Go Go.Proofs Go.Proofs.YtpolbdakhfcilaaGreatDoorEng

theorem beq_nat (a b : Nat) : ((a : Int) == (b : Int)) = decide (a = b) := by
  by_cases h : a = b
  · subst h; simp
  · have : ¬ (a : Int) = b := by omega
    simp [h, this]
end Go.Proofs.YtpolbdakhfcilaaGreatDoor.H

/-
  header: strings.Builder's copyCheck and WriteByte; hex; FormatUint.
-/
set_option maxRecDepth 100000
set_option linter.unusedVariables false
set_option linter.unusedSimpArgs false
namespace Go.Proofs.YtpolbdakhfcilaaGreatDoor.H
open Go.Proofs.YtpolbdakhfcilaaGreatDoor.B Go Go.Proofs Go.Proofs.YtpolbdakhfcilaaGreatDoorEng Go.RowKit

theorem below_chg {B : Nat} {w w' : World} (h : Below B w w') : Chg (fun k => B ≤ k) w w' := ⟨h.os, h.tape, h.output, h.size, fun k _ hk => h.block k (by omega)⟩
theorem below_new {w w' : World} (h : Below w.heap.size w w') : Chg NoS w w' := (below_chg h).mono fun k hk h => by omega

theorem copyCheck_used (b : Nat) (w : World) (h0 : w.cell? ⟨b, 0, none⟩ = some (.pointer (some ⟨b, 0, none⟩))) :
    Calls Tryz.prog 58 #[.pointer (some ⟨b, 0, none⟩)] w fun e w' => e = .returned (.tuple #[]) ∧ w' = w := by
  obtain ⟨j, hj, _⟩ := Option.map_eq_some_iff.1 Tryz.Builder_Extra_169.sizeBuilder
  go_enter Tryz.func58, Tryz.ntmps58
  go_wp2
  rw [Lib.run_neq_ptr_same w _ Tryz.underlying84 hj]
  go_wp2
  go_end0
  exact ⟨rfl, rfl⟩
theorem copyCheck_fresh (b : Nat) (w : World) (h0 : w.cell? ⟨b, 0, none⟩ = some (.pointer none)) (hsh : w.shape? b = some (86, 2)) (hfz : w.frozen? ⟨b, 0, none⟩ = false) :
    Calls Tryz.prog 58 #[.pointer (some ⟨b, 0, none⟩)] w fun e w' => e = .returned (.tuple #[]) ∧ w' = w.setCell ⟨b, 0, none⟩ (.pointer (some ⟨b, 0, none⟩)) := by
  obtain ⟨j, hj, hjs⟩ := Option.map_eq_some_iff.1 Tryz.Builder_Extra_169.sizeBuilder
  go_enter Tryz.func58, Tryz.ntmps58
  go_wp2
  rw [Lib.run_to_unsafe w ⟨b, 0, none⟩ Tryz.underlying84 Tryz.underlying123 hj (by rw [hjs]; decide) hsh (Nat.zero_lt_succ 1)]
  simp only [Result.andThen]
  rw [Oper.upon_value]
  go_wp2
  rw [run_callFunc_extern Tryz.func80 (by kernel_rfl) (by kernel_rfl) (by kernel_rfl) (e := Extern.AbiNoEscape.same) (by kernel_rfl)]
  rw [Lib.run_noEscape]
  simp only [Result.andThen]
  rw [Oper.upon_value]
  go_wp2
  rw [Lib.run_from_unsafe w ⟨b, 0, none⟩ Tryz.underlying123 Tryz.underlying84 hj hsh Tryz.Builder_Extra_169.liesBuilder]
  simp only [Result.andThen]
  rw [Oper.upon_value]
  go_wp2
  go_end0
  exact ⟨rfl, rfl⟩
theorem copyCheck_ok (B b : Nat) (l : List Value) (w : World) (h : Lib.IsBuilder 86 5 B b l w) :
    Calls Tryz.prog 58 #[.pointer (some ⟨b, 0, none⟩)] w (endW (fun v w' => Lib.BuilderAt 86 5 B b (.pointer (some ⟨b, 0, none⟩)) l w' ∧ Below B w w') (fun _ _ => False)) := by
  rcases h with h | h
  · refine (copyCheck_fresh b w h.cell0 h.shape h.frozen0).mono ?_
    rintro e w' ⟨rfl, rfl⟩
    exact ⟨h.used _, (Below.refl B w).setCell (p := ⟨b, 0, none⟩) h.1 _⟩
  · refine (copyCheck_used b w h.cell0).mono ?_
    rintro e w' ⟨rfl, rfl⟩
    exact ⟨h, Below.refl _ _⟩
theorem ByteT' : ByteT Tryz.prog 77 5 := ⟨by kernel_rfl, by kernel_rfl, by kernel_rfl⟩
theorem WriteByte_ok (B b : Nat) (l : List UInt8) (c : UInt8) (w : World) (h : Lib.IsBuilder 86 5 B b (vals l) w) (hl : l.length < 1000000) (hBw : B ≤ w.heap.size) :
    Calls Tryz.prog 78 #[.pointer (some ⟨b, 0, none⟩), .int .u8 (c.toNat : Int)] w (endW (fun v w' => Lib.BuilderAt 86 5 B b (.pointer (some ⟨b, 0, none⟩)) (vals (l ++ [c])) w' ∧ Below B w w') (fun _ _ => False)) := by
  refine F78_calls _ _ ?_
  delta F78
  refine Calls.then (copyCheck_ok B b _ w h) ?_
  rintro v w1 ⟨⟨hB, x, hb, hown, hne⟩, hbel⟩
  have hlen : (vals l).length = l.length := vals_length l
  rw [hlen] at hown
  obtain ⟨a, c1, rfl, hnc, _⟩ := own_form hown
  refine wSome_of rfl ⟨a, l.length, c1, by rw [addK_lit, cell_blk hb]; rfl, ?_⟩
  have hlit := blk_alloc w1 (.cells #[.int .u8 (c.toNat : Int)] 5)
  have hca := chg_alloc w1 (.cells #[.int .u8 (c.toNat : Int)] 5) NoS
  refine bytes_append (bs := l) (ns := [c]) (base := B) ByteT' Tryz.underlying77 (own_of_chg hown hca fun _ _ x => x) rfl (reads_lit hlit) (fun e => by cases e) (by omega) (by have := hbel.size; rw [size_alloc]; omega) ?_
  intro a' c' w2 ho2 hc2 hb2
  have hlt1 := lt_of_blk hb
  have hbb : w2.heap[b]? = some (.cells #[.pointer (some ⟨b, 0, none⟩), .slice a l.length c1] 86 (0, 0)) := by
    refine hc2.blk (hca.blk hb fun x => x) fun e => hne (by simpa using e)
  refine ⟨_, _, _, rfl, wSome_of rfl ?_⟩
  rw [addK_lit, Nat.zero_add]
  refine setW_blk hbb (by simp) rfl ?_
  intro w3 hb3 hc3 hs3
  have hown2 : w2.ownsRow B 5 1 (.slice a' (l.length + 1) c') (vals (l ++ [c])).length (vals (l ++ [c])) := by rw [vals_length, List.length_append]; exact ho2
  have hne2 : (Value.slice a' (l.length + 1) c').ownBlock ≠ some b := Lib.ownBlock_ne hown2 hbb (by decide)
  refine ⟨⟨hB, .slice a' (l.length + 1) c', hb3, own_of_chg hown2 hc3 fun k hk e => hne2 (by rw [hk, show k = b from e]), hne2⟩, ?_⟩
  have hS1 : ∀ k, k < B → ¬ (fun k => (Value.slice a l.length c1).ownBlock = some k) k := fun k hk e => by have := (own_lt' hown e).2; omega
  have b1 : Below B w1 w2 := (hca.below (B := B) (by have := hbel.size; omega) fun k _ x => x).trans (hc2.below (by have := hbel.size; rw [size_alloc]; omega) hS1)
  have b2 : Below B w2 w3 := hc3.below (by have := hc2.size; rw [size_alloc] at this; have := hbel.size; omega) fun k hk e => by have : k = b := e; omega
  exact (hbel.trans b1).trans b2
end Go.Proofs.YtpolbdakhfcilaaGreatDoor.H

/-
  header: hex; FormatUint, Digits, Hex.
-/
set_option maxRecDepth 100000
set_option linter.unusedVariables false
set_option linter.unusedSimpArgs false
namespace Go.Proofs.YtpolbdakhfcilaaGreatDoor.H
open Go.Proofs.YtpolbdakhfcilaaGreatDoor.B Go Go.Proofs Go.Proofs.YtpolbdakhfcilaaGreatDoorEng Go.RowKit

def hexTab : List UInt8 := [48, 49, 50, 51, 52, 53, 54, 55, 56, 57, 97, 98, 99, 100, 101, 102]
def hexc (k : Nat) : UInt8 := hexTab.getD k 0
/-- the d lowest hexadecimal digits, the highest first -/
def hexs (n : Nat) : Nat → List UInt8
  | 0 => []
  | d + 1 => hexc (n / 16 ^ d % 16) :: hexs n d
theorem hexs_length (n : Nat) : ∀ d, (hexs n d).length = d
  | 0 => rfl
  | d + 1 => by simp [hexs, hexs_length n d]
theorem and_low {m : Nat} (k : Nat) (hk : k ≤ 63) (hm : m < 18446744073709551616) {z : Int} (hz : z = ((2 ^ k - 1 : Nat) : Int)) : (BitVec.ofInt 64 (m : Int) &&& BitVec.ofInt 64 z).toNat = m % 2 ^ k := by
  subst hz
  have h2 : 2 ^ k ≤ 2 ^ 63 := Nat.pow_le_pow_right (by omega) hk
  have h3 : 0 < 2 ^ k := Nat.two_pow_pos k
  have e1 : (BitVec.ofInt 64 (m : Int)).toNat = m := by rw [BitVec.toNat_ofInt]; omega
  have e2 : (BitVec.ofInt 64 ((2 ^ k - 1 : Nat) : Int)).toNat = 2 ^ k - 1 := by rw [BitVec.toNat_ofInt]; omega
  rw [BitVec.toNat_and, e1, e2]
  exact Nat.and_two_pow_sub_one_eq_mod m k
theorem fdiv_nat (n k : Nat) : Int.fdiv (n : Int) ((2 : Int) ^ k) = ((n / 2 ^ k : Nat) : Int) := by
  rw [Int.fdiv_eq_ediv_of_nonneg _ (Int.pow_nonneg (by omega))]
  push_cast
  rfl
theorem w64 (n : Nat) (h : n < 18446744073709551616) : IntKind.wrap .u64 (n : Int) = (n : Int) := by rw [IntKind.wrap_u64]; omega
theorem hexTab_byte (k : Nat) : byteAt (bs hexTab) (k : Int) = ((hexc k).toNat : Int) := byteAt_bs _ _
theorem pow16 (j : Nat) : 2 ^ (4 * j) = 16 ^ j := by rw [Nat.pow_mul]

theorem hex_ok (w : World) (n d : Nat) (hn : n < 18446744073709551616) (hd : d ≤ 16) :
    Calls Tryz.prog 55 #[.int .u64 (n : Int), .int .i64 (d : Int)] w (endW (fun v w' => v = .string (bs (hexs n d)) ∧ Chg NoS w w') (fun _ _ => False)) := by
  refine F55_calls _ _ ?_
  delta F55
  have hB0 : Below w.heap.size w (w.alloc (.cells #[.pointer none, .slice none 0 0] 86)) := (chg_alloc w _ NoS).below (Nat.le_refl _) fun _ _ x => x
  refine ⟨fun s w' => ∃ (j : Nat) (l : List UInt8), s = 4 * (j : Int) - 4 ∧ j ≤ d ∧ Lib.IsBuilder 86 5 w.heap.size w.heap.size (vals l) w' ∧ Below w.heap.size w w' ∧ l ++ hexs n j = hexs n d, fun s _ => (s + 4).toNat, ⟨4 * (d : Int) - 4, ⟨?_, trivial⟩, d, [], rfl, Nat.le_refl _, Lib.fresh_isBuilder 86 5 w, hB0, rfl⟩, ?_⟩
  · rw [i64w ((d : Int) - 1) (by omega) (by omega), i64w _ (by omega) (by omega)]
    congr 1
    omega
  rintro s w1 ⟨j, l, rfl, hj, hb, hbel, heq⟩ _
  cases j with
  | zero =>
    rw [if_neg (by simp)]
    refine Calls.mono (Tryz.Builder_String_any _ _ l w1 hb hbel.size) ?_
    rintro e w2 ⟨rfl, hbel2⟩
    refine ⟨_, rfl, ?_, below_new (hbel.trans hbel2)⟩
    rw [← heq]
    simp [hexs]
  | succ j =>
    rw [if_pos (by simp; omega)]
    have es : IntKind.wrap .u64 (4 * ((j + 1 : Nat) : Int) - 4) = ((4 * j : Nat) : Int) := by rw [show 4 * ((j + 1 : Nat) : Int) - 4 = ((4 * j : Nat) : Int) from by omega, w64 _ (by omega)]
    have hq : n / 2 ^ (4 * j) < 18446744073709551616 := Nat.lt_of_le_of_lt (Nat.div_le_self _ _) hn
    rw [es, Int.toNat_natCast, Nat.min_eq_left (by omega), fdiv_nat, and_low 4 (by omega) hq (z := 15) rfl, pow16]
    have hlt : n / 16 ^ j % 2 ^ 4 < 16 := Nat.mod_lt _ (by omega)
    rw [w64 _ (by omega)]
    have hll := congrArg List.length heq
    rw [List.length_append, hexs_length, hexs_length] at hll
    refine ⟨by omega, by omega, by omega, ?_⟩
    show Calls _ _ #[_, .int .u8 (byteAt (bs hexTab) _)] _ _
    rw [hexTab_byte]
    refine Calls.then (WriteByte_ok _ _ l _ w1 hb (by omega) hbel.size) ?_
    rintro v w2 ⟨hb2, hbel2⟩
    refine ⟨4 * (j : Int) - 4, ⟨by rw [i64w _ (by omega) (by omega)]; congr 1; omega, trivial⟩, ⟨j, l ++ [hexc (n / 16 ^ j % 2 ^ 4)], rfl, by omega, .inr hb2, hbel.trans hbel2, ?_⟩, by dsimp only; omega⟩
    rw [List.append_assoc]
    exact heq

/-! ### decimal digits -/
/-- the table of the powers of ten -/
def Tab (w : World) : Prop := ∀ i, i < 20 → w.cell? ⟨1, i, none⟩ = some (.int .u64 ((10 ^ i : Nat) : Int))
theorem Tab.chg {w w' : World} (h : Tab w) (hc : Chg NoS w w') : Tab w' := fun i hi => hc.sameOld.cell (h i hi)
theorem small_ok (w : World) (n : Nat) (hn : n < 100) : Calls Tryz.prog 93 #[.int .i64 (n : Int)] w (endW (fun v w' => v = .string (bs (Lib.decDigits n)) ∧ w' = w) (fun _ _ => False)) := by
  refine F93_calls _ ?_
  delta F93
  by_cases h : n < 10
  · rw [if_pos (by simp; omega), i64w ((n : Int) + 1) (by omega) (by omega)]
    refine ⟨by omega, by omega, by omega, by omega, ?_, rfl⟩
    show Value.string (ByteArray.extract Lib.digits36 _ _) = _
    rw [← bs_data Lib.digits36, bs_extract, show ((n : Int) + 1).toNat = n + 1 from by omega, Int.toNat_natCast, Lib.digits36_piece h]
  · rw [if_neg (by simp; omega), i64w ((n : Int) * 2) (by omega) (by omega), i64w ((n : Int) * 2 + 2) (by omega) (by omega)]
    refine ⟨by omega, by omega, by omega, by omega, ?_, rfl⟩
    show Value.string (ByteArray.extract Lib.smalls _ _) = _
    rw [← bs_data Lib.smalls, bs_extract, show ((n : Int) * 2 + 2).toNat = n * 2 + 2 from by omega, show ((n : Int) * 2).toNat = n * 2 from by omega, Lib.smalls_piece h hn]
theorem log10_ok (w : World) (L : Nat) (hL : L ≤ 64) : Calls Tryz.prog 101 #[.int .i64 (L : Int)] w (endW (fun v w' => v = .int .i64 (Lib.l10 L : Nat) ∧ w' = w) (fun _ _ => False)) := by
  refine F101_calls _ ?_
  delta F101
  refine ⟨by omega, ?_, rfl⟩
  rw [i64w _ (by omega) (by omega), show (L : Int) * 78913 = ((L * 78913 : Nat) : Int) from by omega, fdiv_nat]
  rfl
theorem numDigits_ok (w : World) (n : Nat) (h1 : 1 ≤ n) (h2 : n < 18446744073709551616) (hT : Tab w) : Calls Tryz.prog 94 #[.int .u64 (n : Int)] w (endW (fun v w' => v = .int .i64 (Lib.nDigits n : Nat) ∧ w' = w) (fun _ _ => False)) := by
  refine F94_calls _ ?_
  delta F94
  obtain ⟨e1, e2⟩ := Lib.numDigits_eq n h1 h2
  have hbl : Lib.bitLen n ≤ 64 := Lib.bitLen_le n 64 (Nat.le_refl _) h2
  refine Calls.mono (Tryz.bits_Len64 n w (by omega) (by omega)) ?_
  rintro e w1 ⟨rfl, rfl⟩
  refine ⟨_, rfl, ?_⟩
  rw [Int.toNat_natCast]
  refine Calls.then (log10_ok w1 _ hbl) ?_
  rintro v w2 ⟨rfl, rfl⟩
  refine ⟨_, rfl, by omega, by omega, _, by rw [addK_lit, Nat.zero_add, Int.toNat_natCast, Nat.mul_one]; exact hT _ (by omega), ?_⟩
  have hb : ∀ b : Bool, Calls Tryz.prog 103 #[.bool b] w2 (endW (fun v w' => v = .int .i64 (if b then 1 else 0) ∧ w' = w2) (fun _ _ => False)) := fun b => by
    refine F103_calls _ ?_
    delta F103
    cases b
    · exact ⟨rfl, rfl⟩
    · exact ⟨rfl, rfl⟩
  refine Calls.then (hb _) ?_
  rintro v w3 ⟨rfl, rfl⟩
  refine ⟨_, rfl, ?_, rfl⟩
  rw [← e1]
  by_cases hp : 10 ^ Lib.l10 (Lib.bitLen n) ≤ n
  · rw [if_pos hp, if_pos (decide_eq_true (Int.ofNat_le.2 hp)), i64w _ (by omega) (by omega)]; rfl
  · rw [if_neg hp, if_neg (fun h => hp (Int.ofNat_le.1 (of_decide_eq_true h))), i64w _ (by omega) (by omega)]; rfl

theorem drewN_chg (w : World) (n : Nat) : Chg NoS w (w.drewN n) := below_new (below_drewN (Below.refl w.heap.size w) n)
theorem putRow_chg {w : World} {b off : Nat} {d : Array UInt8} (n : Nat) : Chg (OnlyB b) w ((Sort.putRow (fun (b : UInt8) => Value.int .u8 (b.toNat : Int)) w b off d).drewN n) := by
  have h1 : Chg (OnlyB b) w (Sort.putRow (fun (b : UInt8) => Value.int .u8 (b.toNat : Int)) w b off d) := ⟨rfl, rfl, rfl, by simp, fun k hk hs => by
    have : ¬ b = k := fun e => hs e.symm
    simp [Sort.putRow, Sort.mapBlock, Array.getElem?_modify, this]⟩
  refine h1.trans ?_
  exact (drewN_chg _ n).mono fun k _ h => h.elim
theorem nDigits_le (n : Nat) (h : n < 18446744073709551616) : Lib.nDigits n ≤ 20 := by
  have h1 : 1 ≤ n ∨ n = 0 := by omega
  rcases h1 with h1 | rfl
  · obtain ⟨a, b⟩ := Lib.numDigits_eq n h1 h
    split at a <;> omega
  · rw [Lib.nDigits_small (by omega)]; omega
theorem fmt_ok (w : World) (n : Nat) (hn : n < 18446744073709551616) (hT : Tab w) : Calls Tryz.prog 79 #[.int .u64 (n : Int), .int .i64 10] w (endW (fun v w' => v = .string (bs (Lib.decDigits n)) ∧ Chg NoS w w') (fun _ _ => False)) := by
  refine F79_calls _ _ ?_
  delta F79
  rw [if_pos (by decide)]
  by_cases h : n < 100
  · rw [if_pos (by simp; omega), i64w _ (by omega) (by omega)]
    refine Calls.then (small_ok w n h) ?_
    rintro v w1 ⟨rfl, rfl⟩
    exact ⟨_, rfl, rfl, Chg.refl _ _⟩
  rw [if_neg (by simp; omega)]
  have hb := blk_alloc w (.cells Lib.zeros24 134)
  have hc := chg_alloc w (.cells Lib.zeros24 134) NoS
  show Calls _ _ _ (w.alloc (.cells Lib.zeros24 134)) _
  generalize hw1 : w.alloc (.cells Lib.zeros24 134) = w1 at hb hc ⊢
  refine Calls.then (numDigits_ok w1 n (by omega) hn (hT.chg hc)) ?_
  rintro v w2 ⟨rfl, rfl⟩
  have hnd := nDigits_le n hn
  have hnp := Lib.nDigits_pos n
  refine ⟨_, rfl, by omega, by omega, ?_⟩
  have haddr : (if (24 : Nat) = 0 then (⟨w.heap.size, 0, none⟩ : Addr) else addK ⟨w.heap.size, 0, none⟩ 0) = ⟨w.heap.size, 0, none⟩ := by rw [if_neg (by omega), addK_lit]
  rw [haddr, Int.toNat_natCast, Nat.sub_zero]
  have hH : Sort.Holds (fun (b : UInt8) => Value.int .u8 (b.toNat : Int)) w2 w.heap.size 0 (Array.replicate (Lib.nDigits n) (0 : UInt8)) := fun j hj => by
    rw [Array.size_replicate] at hj
    refine ⟨?_, frozen_blk hb _ none⟩
    rw [cell_blk hb, Nat.zero_add, Lib.zeros24_at j (by omega)]
    simp [hj]
  have hpow : n < 10 ^ (Array.replicate (Lib.nDigits n) (0 : UInt8)).size := by rw [Array.size_replicate]; exact Lib.lt_pow_nDigits n
  have hfb := Tryz.internal_strconv_formatBase10 w.heap.size 0 24 n _ w2 hH hpow hn (by rw [Array.size_replicate]; omega)
  rw [Array.size_replicate] at hfb
  refine Calls.mono hfb ?_
  rintro e w3 ⟨rfl, m, v', dk, rfl, hinv⟩
  refine ⟨by omega, by omega, ?_⟩
  have hch := putRow_chg (w := w2) (b := w.heap.size) (off := 0) (d := dk) m
  have hlen := Lib.decDigits_length n
  refine bytes_str (bs := Lib.decDigits n) ByteT' Tryz.underlying9 (by omega) ?_ ?_
  · intro j u hu
    have hj : j < (Lib.decDigits n).length := by have := (List.getElem?_eq_some_iff.1 hu).1; rwa [vals_length] at this
    rw [vals_get hj] at hu
    injection hu with hu
    subst hu
    refine ⟨_, rfl, ?_⟩
    rw [addK_lit, Nat.zero_add]
    have hds := hinv.size
    have hcell := Sort.cell?_putRow (fun (b : UInt8) => Value.int .u8 (b.toNat : Int)) w2 w.heap.size 0 _ dk hH (by rw [Array.size_replicate]; exact hds) j (by omega)
    rw [Nat.zero_add] at hcell
    rw [(drewN_chg _ m).sameOld.cell hcell, Lib.row_is_numeral hinv j hj]
  · refine ⟨_, rfl, rfl, hc.trans2 hch fun k hk e => ?_⟩
    have : k = w.heap.size := e
    omega
theorem FormatUint_ok (w : World) (n : Nat) (hn : n < 18446744073709551616) (hT : Tab w) : Calls Tryz.prog 56 #[.int .u64 (n : Int), .int .i64 10] w (endW (fun v w' => v = .string (bs (Lib.decDigits n)) ∧ Chg NoS w w') (fun _ _ => False)) := by
  refine F56_calls _ _ ?_
  delta F56
  refine Calls.then (fmt_ok w n hn hT) ?_
  rintro v w1 ⟨rfl, hc⟩
  exact ⟨_, rfl, rfl, hc⟩
end Go.Proofs.YtpolbdakhfcilaaGreatDoor.H

/-
  header: Number and Text, the program's.
-/
set_option maxRecDepth 100000
set_option linter.unusedVariables false
set_option linter.unusedSimpArgs false
namespace Go.Proofs.YtpolbdakhfcilaaGreatDoor.H
open Go.Proofs.YtpolbdakhfcilaaGreatDoor.B Go Go.Proofs Go.Proofs.YtpolbdakhfcilaaGreatDoorEng Go.RowKit

/-! ### rows of strings -/
def strs (ls : List (List UInt8)) : List Value := ls.map fun l => .string (bs l)
theorem strs_length (ls : List (List UInt8)) : (strs ls).length = ls.length := by simp [strs]
theorem strs_append (a b : List (List UInt8)) : strs (a ++ b) = strs a ++ strs b := by simp [strs]
theorem info9 : (Tryz.prog.info? 9).map (fun i => (i.zero, i.size, i.bytes)) = some (some (.string ⟨#[]⟩), 1, 16) := by kernel_rfl
theorem strs_push {w : World} {base n : Nat} {v : Value} {ls : List (List UInt8)} {l : List UInt8} {K : Value → World → Prop} {E : PanW} (ho : w.ownsRow base 9 1 v n (strs ls)) (hn : n ≤ 1000000) (hbase : base ≤ w.heap.size)
    (hK : ∀ a' c' w', w'.ownsRow base 9 1 (.slice a' (n + 1) c') (n + 1) (strs (ls ++ [l])) → Chg (fun k => base ≤ k) w w' → K (.slice a' (n + 1) c') w') :
    runV Tryz.prog (Builtin.append_ #[49, 49] 49 #[v, .slice (some ⟨w.heap.size, 0, none⟩) 1 1]) (w.alloc (.cells #[.string (bs l)] 9)) K E := by
  have hca := chg_alloc w (.cells #[.string (bs l)] 9) NoS
  refine row_append (z := .string ⟨#[]⟩) (size := 1) (bytes := 16) (base := base) (news := [.string (bs l)]) Tryz.underlying49 Tryz.underlying49 info9 rfl (own_of_chg ho hca fun _ _ x => x) rfl (reads_lit (blk_alloc w _)) (fun e => by cases e) (fun u hu => by simp at hu; subst hu; rfl) (by omega) (by omega) (by rw [size_alloc]; omega) ?_
  intro a' c' w' ho' hc' hb'
  refine hK a' c' w' (by rw [strs_append]; exact ho') ?_
  exact (hca.mono fun _ _ x => x.elim).trans (hc'.mono fun k _ hk => (own_lt' ho hk).2)
theorem Join_own {w : World} {base n : Nat} {a : Option Addr} {c : Nat} {ls : List (List UInt8)} {sep : List UInt8} (ho : w.ownsRow base 9 1 (.slice a n c) n (strs ls)) (hn : ls.length ≤ 1000000) (hl : (Lib.join ls sep).length ≤ 140737488355328) :
    Calls Tryz.prog 17 #[.slice a n c, .string (bs sep)] w (endW (fun v w' => v = .string (bs (Lib.join ls sep)) ∧ Chg NoS w w') (fun _ _ => False)) := by
  have hlen : ls.length = n := by have := ho.1; rw [strs_length] at this; omega
  rcases ho.2 with ⟨he, h0⟩ | ⟨g, cap, cur, he, hg, hh, hnc, hm, hsz, ht⟩
  · have : ls = [] := List.eq_nil_of_length_eq_zero (by omega)
    subst this
    subst h0
    refine Calls.mono (Tryz.strings_Join_none a c (bs sep) w) ?_
    rintro e w' ⟨rfl, rfl⟩
    exact ⟨rfl, Chg.refl _ _⟩
  · injection he with he1 he2 he3
    subst he1 he3
    have hxl : (ls.map bs).length = n := by simp [hlen]
    have hmap : (ls.map bs).map (·.data.toList) = ls := by
      rw [List.map_map]
      conv => rhs; rw [← List.map_id ls]
      apply List.map_congr_left
      intro x _
      simp [bs]
    have hj := Tryz.strings_Join g 0 c (ls.map bs) (bs sep) w (fun j x hx => by
      rw [List.getElem?_map] at hx
      obtain ⟨l, hl, rfl⟩ := Option.map_eq_some_iff.1 hx
      obtain ⟨A, hA, hc⟩ := own_cell ho (j := j) (u := .string (bs l)) (by simp [strs, hl])
      cases hA
      rw [addK_lit] at hc
      exact hc) (lt_of_blk hh) (by omega) (by omega) (by rw [hmap]; simpa [bs] using hl)
    rw [hxl, hmap] at hj
    refine Calls.mono hj ?_
    rintro e w' ⟨rfl, hbel⟩
    refine ⟨?_, below_new hbel⟩
    simp [bs]

/-! ### names and numbers -/
def names : List (List UInt8) := [[115, 114, 99], [100, 115, 116], [107, 105, 110, 100], [118, 108, 97, 110], [102, 114, 111, 109], [116, 111], [112, 114, 111, 116, 111], [115, 112, 111, 114, 116], [100, 112, 111, 114, 116], [112, 111, 114, 116], [115, 119, 105, 116, 99, 104]]
def nam (k : Nat) : List UInt8 := names.getD k []
theorem nam_get : ∀ k, k < 11 → (strs names)[k]? = some (.string (bs (nam k)))
  | 0, _ => rfl | 1, _ => rfl | 2, _ => rfl | 3, _ => rfl | 4, _ => rfl | 5, _ => rfl | 6, _ => rfl | 7, _ => rfl | 8, _ => rfl | 9, _ => rfl | 10, _ => rfl
  | k + 11, hk => by omega
theorem nam_len : ∀ k, k < 11 → 0 < (nam k).length ∧ (nam k).length ≤ 6
  | 0, _ => by decide | 1, _ => by decide | 2, _ => by decide | 3, _ => by decide | 4, _ => by decide | 5, _ => by decide | 6, _ => by decide | 7, _ => by decide | 8, _ => by decide | 9, _ => by decide | 10, _ => by decide
  | k + 11, hk => by omega
theorem Names_ok (w : World) : Calls Tryz.prog 31 #[] w (endW (fun v w' => v = .agg (strs names).toArray ∧ Chg NoS w w') (fun _ _ => False)) := by
  refine F31_calls ?_
  delta F31
  refine (sets_blk (b := w.heap.size) (t := 78) (cs := #[.string ⟨#[]⟩, .string ⟨#[]⟩, .string ⟨#[]⟩, .string ⟨#[]⟩, .string ⟨#[]⟩, .string ⟨#[]⟩, .string ⟨#[]⟩, .string ⟨#[]⟩, .string ⟨#[]⟩, .string ⟨#[]⟩, .string ⟨#[]⟩]) (vs := strs names) (blk_alloc w _) rfl (by simp [oneC, strs, names]) fun w' b' c' z' => ?_ : setsW _ _ _ _ _)
  have hc : ∀ k v, (strs names)[k]? = some v → w'.cell? (addK ⟨w.heap.size, 0, none⟩ k) = some v := fun k v hv => by
    rw [addK_lit, Nat.zero_add, cell_blk b']
    simpa using hv
  refine ⟨_, hc 0 _ rfl, _, hc 1 _ rfl, _, hc 2 _ rfl, _, hc 3 _ rfl, _, hc 4 _ rfl, _, hc 5 _ rfl, _, hc 6 _ rfl, _, hc 7 _ rfl, _, hc 8 _ rfl, _, hc 9 _ rfl, _, hc 10 _ rfl, rfl, ?_⟩
  exact (chg_alloc w _ _).trans2 c' fun k hk e => by
    have : k = w.heap.size := e
    omega
def macPart (n i : Nat) : List UInt8 := hexs (n / 2 ^ (40 - 8 * i) % 256) 2
def ipPart (n i : Nat) : List UInt8 := Lib.decDigits (n / 2 ^ (24 - 8 * i) % 256)
def numTxt (f n : Nat) : List UInt8 := if f = 0 ∨ f = 1 then Lib.join ((List.range 6).map (macPart n)) [58] else if f = 4 ∨ f = 5 then Lib.join ((List.range 4).map (ipPart n)) [46] else Lib.decDigits n
theorem dec_le (n : Nat) (h : n < 18446744073709551616) : (Lib.decDigits n).length ≤ 20 := by rw [Lib.decDigits_length]; exact nDigits_le n h
theorem join_le (ls : List (List UInt8)) (sep : List UInt8) (k : Nat) (h : ∀ l ∈ ls, l.length ≤ k) : (Lib.join ls sep).length ≤ ls.length * (sep.length + k) := by
  cases ls with
  | nil => simp [Lib.join_nil]
  | cons x r =>
    rw [Lib.join_length]
    have hs : ∀ (r : List (List UInt8)), (∀ l ∈ r, l.length ≤ k) → Lib.lens r ≤ r.length * k := by
      intro r
      induction r with
      | nil => intro _; simp [Lib.lens]
      | cons y r ih =>
        intro hr
        have h1 := ih fun l hl => hr l (List.mem_cons_of_mem _ hl)
        have h2 := hr y List.mem_cons_self
        simp only [Lib.lens, List.map_cons, List.sum_cons, List.length_cons] at h1 ⊢
        rw [Nat.succ_mul]
        omega
    have h3 := hs (x :: r) h
    simp only [List.length_cons] at h3 ⊢
    rw [Nat.mul_add, Nat.mul_comm sep.length r.length, Nat.succ_mul r.length sep.length]
    omega
theorem mac_len (n i : Nat) : (macPart n i).length = 2 := hexs_length _ _
theorem ip_len (n i : Nat) : (ipPart n i).length ≤ 20 := dec_le _ (by have : n / 2 ^ (24 - 8 * i) % 256 < 256 := Nat.mod_lt _ (by omega); omega)
theorem byte_of {n i m : Nat} (hn : n < 18446744073709551616) (hi : i * 8 ≤ m) (hm : m ≤ 40) {s : Int} (hs : s = ((m - 8 * i : Nat) : Int)) :
    IntKind.wrap .u64 ((BitVec.ofInt 64 (Int.fdiv (n : Int) ((2 : Int) ^ min (IntKind.wrap .u64 s).toNat 64)) &&& BitVec.ofInt 64 255).toNat : Int) = ((n / 2 ^ (m - 8 * i) % 256 : Nat) : Int) := by
  subst hs
  have hq : n / 2 ^ (m - 8 * i) < 18446744073709551616 := Nat.lt_of_le_of_lt (Nat.div_le_self _ _) hn
  rw [show IntKind.wrap .u64 ((m - 8 * i : Nat) : Int) = ((m - 8 * i : Nat) : Int) from w64 _ (by omega), Int.toNat_natCast, Nat.min_eq_left (by omega), fdiv_nat, and_low 8 (by omega) hq (z := 255) rfl]
  have : n / 2 ^ (m - 8 * i) % 2 ^ 8 < 256 := Nat.mod_lt _ (by omega)
  rw [w64 _ (by omega)]
theorem chg_base {B : Nat} {w w1 w' : World} (h : Chg (fun k => B ≤ k) w w1) (h2 : Chg NoS w1 w') : Chg (fun k => B ≤ k) w w' := h.trans (h2.mono fun _ _ x => x.elim)
theorem chg_new {w w' : World} (h : Chg (fun k => w.heap.size ≤ k) w w') : Chg NoS w w' := h.mono fun k hk h => by omega

theorem Number_ok (w : World) (f n : Nat) (hf : f < 11) (hn : n < 18446744073709551616) (hT : Tab w) :
    Calls Tryz.prog 33 #[.int .i8 (f : Int), .int .u64 (n : Int)] w (endW (fun v w' => v = .string (bs (numTxt f n)) ∧ Chg NoS w w') (fun _ _ => False)) := by
  refine F33_calls _ _ ?_
  delta F33
  refine ⟨fun s w' => w' = w ∧ s = decide (f = 0 ∨ f = 1), ?_, ?_⟩
  · rintro s w' ⟨rfl, rfl⟩ _
    by_cases h01 : f = 0 ∨ f = 1
    · rw [if_pos (by simp [h01])]
      have hnum : numTxt f n = Lib.join ((List.range 6).map (macPart n)) [58] := by unfold numTxt; rw [if_pos h01]
      rw [hnum]
      refine ⟨fun s w1 => ∃ i : Nat, s.2.2.2 = 40 - 8 * (i : Int) ∧ i ≤ 6 ∧ Chg (fun k => w'.heap.size ≤ k) w' w1 ∧ w1.ownsRow w'.heap.size 9 1 (.slice s.1 s.2.1 s.2.2.1) i (strs ((List.range i).map (macPart n))), fun s _ => (s.2.2.2 + 8).toNat,
        ⟨(none, 0, 0, 40), ⟨rfl, rfl, trivial⟩, 0, rfl, by omega, Chg.refl _ _, own_nil' _ _ _ _⟩, ?_⟩
      rintro ⟨a, m, c, z⟩ w1 ⟨i, hz, hi, hc, ho⟩ _
      dsimp only at hz ho ⊢
      subst hz
      by_cases h6 : i = 6
      · subst h6
        rw [if_neg (by simp)]
        obtain ⟨a', c', e, _, _⟩ := own_form ho
        injection e with e1 e2 e3
        subst e2
        refine Calls.then (Join_own (sep := [58]) ho (by simp) ?_) ?_
        · have := join_le ((List.range 6).map (macPart n)) [58] 2 (fun l hl => by simp at hl; obtain ⟨i, _, rfl⟩ := hl; rw [mac_len]; omega)
          simp at this ⊢
          omega
        · rintro v w2 ⟨rfl, hc2⟩
          exact ⟨_, rfl, rfl, chg_new (chg_base hc hc2)⟩
      · rw [if_pos (by simp; omega)]
        have hb := byte_of (i := i) (m := 40) hn (by omega) (by omega) (s := 40 - 8 * (i : Int)) (by omega)
        rw [hb]
        refine ⟨by rw [show (40 - 8 * (i : Int)) = ((40 - 8 * i : Nat) : Int) from by omega, w64 _ (by omega)]; omega, ?_⟩
        have hlt : n / 2 ^ (40 - 8 * i) % 256 < 256 := Nat.mod_lt _ (by omega)
        refine Calls.then (hex_ok w1 _ 2 (by omega) (by omega)) ?_
        rintro v w2 ⟨rfl, hc2⟩
        refine ⟨_, rfl, ?_⟩
        obtain ⟨a', c', e, _, _⟩ := own_form ho
        injection e with e1 e2 e3
        subst e2
        refine strs_push (own_of_chg ho hc2 fun _ _ x => x) (by omega) (by have := hc.size; have := hc2.size; omega) ?_
        intro a2 c2 w3 ho3 hc3
        refine ⟨_, _, _, rfl, (a2, m + 1, c2, 40 - 8 * ((m + 1 : Nat) : Int)), ⟨rfl, by show Value.int .i64 (40 - 8 * ((m + 1 : Nat) : Int)) = _; rw [i64w _ (by omega) (by omega)]; congr 1; omega, trivial⟩, ⟨m + 1, rfl, by omega, (chg_base hc hc2).trans hc3, ?_⟩, by show (40 - 8 * ((m + 1 : Nat) : Int) + 8).toNat < (40 - 8 * (m : Int) + 8).toNat; omega⟩
        rw [List.range_succ, List.map_append]
        exact ho3
    · rw [if_neg (by simp [h01])]
      refine ⟨fun s w1 => w1 = w' ∧ s = decide (f = 4 ∨ f = 5), ?_, ?_⟩
      · rintro s w0 ⟨rfl, rfl⟩ _
        by_cases h45 : f = 4 ∨ f = 5
        · rw [if_pos (by simp [h45])]
          have hnum : numTxt f n = Lib.join ((List.range 4).map (ipPart n)) [46] := by unfold numTxt; rw [if_neg h01, if_pos h45]
          rw [hnum]
          refine ⟨fun s w1 => ∃ i : Nat, s.2.2.2 = 24 - 8 * (i : Int) ∧ i ≤ 4 ∧ Chg (fun k => w0.heap.size ≤ k) w0 w1 ∧ w1.ownsRow w0.heap.size 9 1 (.slice s.1 s.2.1 s.2.2.1) i (strs ((List.range i).map (ipPart n))), fun s _ => (s.2.2.2 + 8).toNat,
            ⟨(none, 0, 0, 24), ⟨rfl, rfl, trivial⟩, 0, rfl, by omega, Chg.refl _ _, own_nil' _ _ _ _⟩, ?_⟩
          rintro ⟨a, m, c, z⟩ w1 ⟨i, hz, hi, hc, ho⟩ _
          dsimp only at hz ho ⊢
          subst hz
          by_cases h6 : i = 4
          · subst h6
            rw [if_neg (by simp)]
            obtain ⟨a', c', e, _, _⟩ := own_form ho
            injection e with e1 e2 e3
            subst e2
            refine Calls.then (Join_own (sep := [46]) ho (by simp) ?_) ?_
            · have := join_le ((List.range 4).map (ipPart n)) [46] 20 (fun l hl => by simp at hl; obtain ⟨i, _, rfl⟩ := hl; exact ip_len n i)
              simp at this ⊢
              omega
            · rintro v w2 ⟨rfl, hc2⟩
              exact ⟨_, rfl, rfl, chg_new (chg_base hc hc2)⟩
          · rw [if_pos (by simp; omega)]
            have hb := byte_of (i := i) (m := 24) hn (by omega) (by omega) (s := 24 - 8 * (i : Int)) (by omega)
            rw [hb]
            refine ⟨by rw [show (24 - 8 * (i : Int)) = ((24 - 8 * i : Nat) : Int) from by omega, w64 _ (by omega)]; omega, ?_⟩
            have hlt : n / 2 ^ (24 - 8 * i) % 256 < 256 := Nat.mod_lt _ (by omega)
            refine Calls.then (FormatUint_ok w1 _ (by omega) (hT.chg (chg_new hc))) ?_
            rintro v w2 ⟨rfl, hc2⟩
            refine ⟨_, rfl, ?_⟩
            obtain ⟨a', c', e, _, _⟩ := own_form ho
            injection e with e1 e2 e3
            subst e2
            refine strs_push (own_of_chg ho hc2 fun _ _ x => x) (by omega) (by have := hc.size; have := hc2.size; omega) ?_
            intro a2 c2 w3 ho3 hc3
            refine ⟨_, _, _, rfl, (a2, m + 1, c2, 24 - 8 * ((m + 1 : Nat) : Int)), ⟨rfl, by show Value.int .i64 (24 - 8 * ((m + 1 : Nat) : Int)) = _; rw [i64w _ (by omega) (by omega)]; congr 1; omega, trivial⟩, ⟨m + 1, rfl, by omega, (chg_base hc hc2).trans hc3, ?_⟩, by show (24 - 8 * ((m + 1 : Nat) : Int) + 8).toNat < (24 - 8 * (m : Int) + 8).toNat; omega⟩
            rw [List.range_succ, List.map_append]
            exact ho3
        · rw [if_neg (by simp [h45])]
          have hnum : numTxt f n = Lib.decDigits n := by unfold numTxt; rw [if_neg h01, if_neg h45]
          rw [hnum]
          refine Calls.then (FormatUint_ok w0 n hn hT) ?_
          rintro v w1 ⟨rfl, hc⟩
          exact ⟨_, rfl, rfl, hc⟩
      · by_cases h4 : f = 4
        · rw [if_pos (by simp [h4])]
          exact ⟨_, ⟨rfl, trivial⟩, rfl, by subst h4; rfl⟩
        · rw [if_neg (by simp; omega)]
          refine ⟨_, ⟨rfl, trivial⟩, rfl, ?_⟩
          have := beq_nat f 5
          rw [show ((f : Int) == 5) = decide (f = 5) from this]
          simp [h4]
  · by_cases h0 : f = 0
    · rw [if_pos (by simp [h0])]
      exact ⟨_, ⟨rfl, trivial⟩, rfl, by subst h0; rfl⟩
    · rw [if_neg (by simp; omega)]
      refine ⟨_, ⟨rfl, trivial⟩, rfl, ?_⟩
      have := beq_nat f 1
      rw [show ((f : Int) == 1) = decide (f = 1) from this]
      simp [h0]
end Go.Proofs.YtpolbdakhfcilaaGreatDoor.H

/-
  header: Text, the program's.
-/
set_option maxRecDepth 100000
set_option linter.unusedVariables false
set_option linter.unusedSimpArgs false
namespace Go.Proofs.YtpolbdakhfcilaaGreatDoor.H
open Go.Proofs.YtpolbdakhfcilaaGreatDoor.B Go Go.Proofs Go.Proofs.YtpolbdakhfcilaaGreatDoorEng Go.RowKit

def kindPre : List UInt8 := [107, 105, 110, 100, 61, 48, 120]
def part (h : HN) (f : Nat) : List UInt8 := if f = 2 then kindPre ++ hexs (h 2) 4 else nam f ++ [61] ++ numTxt f (h f)
def has (h : HN) (f : Nat) : Bool := decide (f = 2 ∨ h f ≠ 0)
def parts (h : HN) (k : Nat) : List (List UInt8) := ((List.range k).filter (has h)).map (part h)
def text (h : HN) : List UInt8 := if okH h then Lib.join (parts h 11) [32] else []
theorem numTxt_len {f n : Nat} (hn : n < 18446744073709551616) : (numTxt f n).length ≤ 84 := by
  unfold numTxt
  split
  · have := join_le ((List.range 6).map (macPart n)) [58] 2 (fun l hl => by simp at hl; obtain ⟨i, _, rfl⟩ := hl; rw [mac_len]; omega)
    simp at this ⊢
    omega
  · split
    · have := join_le ((List.range 4).map (ipPart n)) [46] 20 (fun l hl => by simp at hl; obtain ⟨i, _, rfl⟩ := hl; exact ip_len n i)
      simp at this ⊢
      omega
    · have := dec_le n hn; omega
theorem max64 : IntKind.max .i64 = 9223372036854775807 := rfl

end Go.Proofs.YtpolbdakhfcilaaGreatDoor.H

/-
  header: the document's Hex, Digits, Number, Text.
-/
set_option maxRecDepth 100000
set_option linter.unusedVariables false
set_option linter.unusedSimpArgs false
namespace Go.Proofs.YtpolbdakhfcilaaGreatDoor.H
open Go.Proofs.YtpolbdakhfcilaaGreatDoor.B Go Go.Proofs Go.Proofs.YtpolbdakhfcilaaGreatDoorEng Go.RowKit



theorem ip_join (n : Nat) : Lib.join ((List.range 4).map (ipPart n)) [46] = ipPart n 0 ++ [46] ++ ipPart n 1 ++ [46] ++ ipPart n 2 ++ [46] ++ ipPart n 3 := by
  have : (List.range 4).map (ipPart n) = [ipPart n 0, ipPart n 1, ipPart n 2, ipPart n 3] := rfl
  rw [this, Lib.join_cons]
  simp [Lib.joinTail, List.append_assoc]

end Go.Proofs.YtpolbdakhfcilaaGreatDoor.H

