/-
  header: the document's Hex, Digits, Number, Text.
-/
import Derived.Test.YtjbgckpalaodaaaDoorHdF
import Derived.Test.YtjbgckpalaodaaaDoorBC
set_option maxRecDepth 100000
set_option linter.unusedVariables false
set_option linter.unusedSimpArgs false
namespace Go.Proofs.YtjbgckpalaodaaaDoor.B
open Go Go.Proofs Go.Proofs.YtjbgckpalaodaaaDoorEng Go.RowKit

theorem hexTab_one {k : Nat} (hk : k < 16) : (hexTab.drop k).take (k + 1 - k) = [hexc k] := by
  have : ∀ k, k < 16 → (hexTab.drop k).take (k + 1 - k) = [hexc k] := by decide
  exact this k hk
theorem rHex_ok (w : World) (n d : Nat) (hn : n < 18446744073709551616) (hd : d ≤ 16) :
    Calls Tryd.prog 21 #[.int .u64 (n : Int), .int .i64 (d : Int)] w (endW (fun v w' => v = .string (bs (hexs n d)) ∧ Chg NoS w w') (fun _ _ => False)) := by
  refine F21_calls _ _ ?_
  delta F21
  refine ⟨fun s w' => ∃ j : Nat, s.1 = ((n / 16 ^ j : Nat) : Int) ∧ s.2.1 = bs (hexs n j) ∧ s.2.2 = (j : Int) ∧ j ≤ d ∧ w' = w, fun s _ => (d - s.2.2).toNat, ⟨((n : Int), bs [], 0), ⟨rfl, rfl, rfl, trivial⟩, 0, by simp, rfl, rfl, Nat.zero_le _, rfl⟩, ?_⟩
  rintro ⟨z, s, i⟩ w1 ⟨j, hz, hs, hi, hj, rfl⟩ _
  dsimp only at hz hs hi ⊢
  subst hz hs hi
  by_cases hlt : j < d
  · rw [if_pos (by simp; omega)]
    have hq : n / 16 ^ j < 18446744073709551616 := Nat.lt_of_le_of_lt (Nat.div_le_self _ _) hn
    rw [and_low 4 (by omega) hq (z := 15) rfl]
    have hlt16 : n / 16 ^ j % 2 ^ 4 < 16 := Nat.mod_lt _ (by omega)
    generalize hm : n / 16 ^ j % 2 ^ 4 = m at hlt16 ⊢
    rw [w64 m (by omega), show (m : Int) + 1 = ((m + 1 : Nat) : Int) from rfl, w64 (m + 1) (by omega), Int.toNat_natCast, Int.toNat_natCast]
    rw [show ({ data := #[48, 49, 50, 51, 52, 53, 54, 55, 56, 57, 97, 98, 99, 100, 101, 102] } : ByteArray) = bs hexTab from rfl, bs_extract, hexTab_one hlt16, bs_app, bs_size, bs_size, hexs_length]
    refine ⟨by omega, by omega, by omega, by omega, by rw [max64]; simp; omega, by omega, ?_⟩
    refine ⟨(((n / 16 ^ (j + 1) : Nat) : Int), bs (hexs n (j + 1)), ((j + 1 : Nat) : Int)), ⟨?_, ?_, by rw [i64w _ (by omega) (by omega)]; rfl, trivial⟩, ⟨j + 1, rfl, rfl, rfl, by omega, rfl⟩, by show (d - ((j + 1 : Nat) : Int)).toNat < (d - (j : Int)).toNat; omega⟩
    · show Value.int .u64 ((n / 16 ^ (j + 1) : Nat) : Int) = _
      rw [fdiv_nat, Nat.div_div_eq_div_mul, ← Nat.pow_succ]
    · show Value.string (bs (hexs n (j + 1))) = _
      rw [hexs, ← hm]
      rfl
  · rw [if_neg (by simp; omega)]
    have : j = d := by omega
    subst this
    exact ⟨rfl, Chg.refl _ _⟩

theorem dec_big {n : Nat} (h : ¬ n < 10) : Lib.decDigits n = Lib.decDigits (n / 10) ++ [UInt8.ofNat (48 + n % 10)] := by rw [Lib.decDigits, dif_neg h]
theorem chr_val (m : Nat) : IntKind.wrap .i32 (IntKind.wrap .u64 (48 + Int.tmod (m : Int) 10)) = ((48 + m % 10 : Nat) : Int) := by
  have : Int.tmod (m : Int) 10 = ((m % 10 : Nat) : Int) := by rw [Int.tmod_eq_emod_of_nonneg (by omega)]; rfl
  rw [this, show (48 : Int) + ((m % 10 : Nat) : Int) = ((48 + m % 10 : Nat) : Int) from rfl, w64 _ (by omega), IntWalk.i32_in _ (by omega)]
theorem rDigits_ok (w : World) (n : Nat) (hn : n < 18446744073709551616) :
    Calls Tryd.prog 30 #[.int .u64 (n : Int)] w (endW (fun v w' => v = .string (bs (Lib.decDigits n)) ∧ w' = w) (fun _ _ => False)) := by
  refine F30_calls _ ?_
  delta F30
  refine ⟨by omega, ?_⟩
  rw [chr_val]
  refine conv_rune (by kernel_rfl) Tryd.underlying9 (by omega) ?_
  refine ⟨_, rfl, ?_⟩
  refine ⟨fun s w' => ∃ (m : Nat) (t : List UInt8), s.1 = (m : Int) ∧ m ≤ n ∧ s.2 = bs (UInt8.ofNat (48 + m % 10) :: t) ∧ Lib.decDigits n = Lib.decDigits m ++ t ∧ w' = w, fun s _ => s.1.toNat, ⟨((n : Int), bs [UInt8.ofNat (48 + n % 10)]), ⟨rfl, rfl, trivial⟩, n, [], rfl, Nat.le_refl _, rfl, by simp, rfl⟩, ?_⟩
  rintro ⟨z, s⟩ w1 ⟨m, t, hz, hm, hs, heq, rfl⟩ _
  dsimp only at hz hs ⊢
  subst hz hs
  by_cases h9 : 9 < m
  · rw [if_pos (by simp; omega)]
    have hdiv : IntKind.wrap .u64 (Int.tdiv (m : Int) 10) = ((m / 10 : Nat) : Int) := by
      rw [Int.tdiv_eq_ediv_of_nonneg (by omega), show (m : Int) / 10 = ((m / 10 : Nat) : Int) from rfl, w64 _ (by omega)]
    rw [hdiv, chr_val]
    refine ⟨by omega, by omega, ?_⟩
    refine conv_rune (by kernel_rfl) Tryd.underlying9 (by omega) ?_
    have hlen := congrArg List.length heq
    have hle := dec_le n hn
    rw [List.length_append] at hlen
    refine ⟨_, rfl, by rw [max64, bs_size, bs_size]; simp only [List.length_cons, List.length_nil]; omega, ?_⟩
    refine ⟨(((m / 10 : Nat) : Int), bs (UInt8.ofNat (48 + m / 10 % 10) :: (UInt8.ofNat (48 + m % 10) :: t))), ⟨rfl, by rw [bs_app]; rfl, trivial⟩, ⟨m / 10, UInt8.ofNat (48 + m % 10) :: t, rfl, by omega, rfl, ?_, rfl⟩, by show (((m / 10 : Nat) : Int)).toNat < (m : Int).toNat; omega⟩
    rw [heq, dec_big (show ¬ m < 10 by omega), List.append_assoc]
    rfl
  · rw [if_neg (by simp; omega)]
    refine ⟨?_, rfl⟩
    rw [heq, Lib.decDigits_one (show m < 10 by omega), Nat.mod_eq_of_lt (show m < 10 by omega)]
    rfl
theorem rName_ok (w : World) (k : Nat) (hk : k < 11) : Calls Tryd.prog 22 #[.int .i8 (k : Int)] w (endW (fun v w' => v = .string (bs (nam k)) ∧ Chg NoS w w') (fun _ _ => False)) := by
  refine F22_calls _ ?_
  delta F22
  refine ⟨by omega, by omega, bs (nam k), ?_, rfl, chg_alloc w _ _⟩
  rw [addK_lit, Nat.zero_add, Int.toNat_natCast, Nat.mul_one]
  refine (cell_blk (blk_alloc w (.cells (strs names).toArray 9)) k).trans ?_
  have := nam_get k hk
  simpa using this
theorem join_snoc (ls : List (List UInt8)) (x sep : List UInt8) (h : ls ≠ []) : Lib.join (ls ++ [x]) sep = Lib.join ls sep ++ sep ++ x := by
  cases ls with
  | nil => exact absurd rfl h
  | cons y r =>
    rw [List.cons_append, Lib.join_cons, Lib.join_cons]
    simp [Lib.joinTail]
theorem join_snoc' (ls : List (List UInt8)) (x sep : List UInt8) : Lib.join (ls ++ [x]) sep = if ls = [] then x else Lib.join ls sep ++ sep ++ x := by
  by_cases h : ls = []
  · subst h; rw [if_pos rfl]; exact Lib.join_one x sep
  · rw [if_neg h]; exact join_snoc ls x sep h
theorem join_ne (ls : List (List UInt8)) (sep : List UInt8) (h : ∀ l ∈ ls, 0 < l.length) : (Lib.join ls sep = [] ↔ ls = []) := by
  cases ls with
  | nil => simp [Lib.join_nil]
  | cons y r =>
    rw [Lib.join_cons]
    have := h y List.mem_cons_self
    constructor
    · intro e
      have := congrArg List.length e
      rw [List.length_append] at this
      simp only [List.length_nil] at this
      omega
    · intro e; cases e

theorem mask8 {n k : Nat} (hn : n < 18446744073709551616) : IntKind.wrap .u64 ((BitVec.ofInt 64 (Int.fdiv (n : Int) ((2 : Int) ^ k)) &&& BitVec.ofInt 64 255).toNat : Int) = ((n / 2 ^ k % 256 : Nat) : Int) := by
  have hq : n / 2 ^ k < 18446744073709551616 := Nat.lt_of_le_of_lt (Nat.div_le_self _ _) hn
  rw [fdiv_nat, and_low 8 (by omega) hq (z := 255) rfl]
  have : n / 2 ^ k % 2 ^ 8 < 256 := Nat.mod_lt _ (by omega)
  rw [w64 _ (by omega)]
theorem ip_join (n : Nat) : Lib.join ((List.range 4).map (ipPart n)) [46] = ipPart n 0 ++ [46] ++ ipPart n 1 ++ [46] ++ ipPart n 2 ++ [46] ++ ipPart n 3 := by
  have : (List.range 4).map (ipPart n) = [ipPart n 0, ipPart n 1, ipPart n 2, ipPart n 3] := rfl
  rw [this, Lib.join_cons]
  simp [Lib.joinTail, List.append_assoc]
theorem rIp {w : World} {n : Nat} (hn : n < 18446744073709551616) {R : Value → World → Prop} (hR : R (.string (bs (Lib.join ((List.range 4).map (ipPart n)) [46]))) w) :
    Calls Tryd.prog 30 #[.int .u64 (IntKind.wrap .u64 ((BitVec.ofInt 64 (Int.fdiv (n : Int) ((2 : Int) ^ 24)) &&& BitVec.ofInt 64 255).toNat : Int))] w (endW (fun v w' => ∃ s, v = .string s ∧ ((s.size + 1 : Nat) : Int) ≤ IntKind.max .i64 ∧ (0 : Int) ≤ 16 ∧
      Calls Tryd.prog 30 #[.int .u64 (IntKind.wrap .u64 ((BitVec.ofInt 64 (Int.fdiv (n : Int) ((2 : Int) ^ 16)) &&& BitVec.ofInt 64 255).toNat : Int))] w' (endW (fun v w' => ∃ s_1, v = .string s_1 ∧ (((s ++ { data := #[46] }).size + s_1.size : Nat) : Int) ≤ IntKind.max .i64 ∧ (((s ++ { data := #[46] } ++ s_1).size + 1 : Nat) : Int) ≤ IntKind.max .i64 ∧ (0 : Int) ≤ 8 ∧
        Calls Tryd.prog 30 #[.int .u64 (IntKind.wrap .u64 ((BitVec.ofInt 64 (Int.fdiv (n : Int) ((2 : Int) ^ 8)) &&& BitVec.ofInt 64 255).toNat : Int))] w' (endW (fun v w' => ∃ s_2, v = .string s_2 ∧ (((s ++ { data := #[46] } ++ s_1 ++ { data := #[46] }).size + s_2.size : Nat) : Int) ≤ IntKind.max .i64 ∧ (((s ++ { data := #[46] } ++ s_1 ++ { data := #[46] } ++ s_2).size + 1 : Nat) : Int) ≤ IntKind.max .i64 ∧
          Calls Tryd.prog 30 #[.int .u64 (IntKind.wrap .u64 ((BitVec.ofInt 64 (n : Int) &&& BitVec.ofInt 64 255).toNat : Int))] w' (endW (fun v w' => ∃ s_3, v = .string s_3 ∧ (((s ++ { data := #[46] } ++ s_1 ++ { data := #[46] } ++ s_2 ++ { data := #[46] }).size + s_3.size : Nat) : Int) ≤ IntKind.max .i64 ∧
            R (.string (s ++ { data := #[46] } ++ s_1 ++ { data := #[46] } ++ s_2 ++ { data := #[46] } ++ s_3)) w') (fun _ _ => False))) (fun _ _ => False))) (fun _ _ => False))) (fun _ _ => False)) := by
  have hp : ∀ k, n / 2 ^ k % 256 < 18446744073709551616 := fun k => by have : n / 2 ^ k % 256 < 256 := Nat.mod_lt _ (by omega); omega
  have h0 := mask8 (k := 0) hn
  have hf0 : Int.fdiv (n : Int) ((2 : Int) ^ 0) = (n : Int) := by rw [fdiv_nat]; simp
  rw [hf0] at h0
  have dot : ({ data := #[46] } : ByteArray) = bs [46] := rfl
  have l0 := ip_len n 0
  have l1 := ip_len n 1
  have l2 := ip_len n 2
  have l3 := ip_len n 3
  rw [mask8 hn]
  refine Calls.then (rDigits_ok w _ (hp 24)) ?_
  rintro v w1 ⟨rfl, rfl⟩
  refine ⟨bs (ipPart n 0), rfl, by rw [max64, bs_size]; omega, by omega, ?_⟩
  rw [mask8 hn]
  refine Calls.then (rDigits_ok w1 _ (hp 16)) ?_
  rintro v w2 ⟨rfl, rfl⟩
  refine ⟨bs (ipPart n 1), rfl, ?_⟩
  rw [dot, bs_app, bs_app]
  refine ⟨by rw [max64, bs_size, bs_size]; simp only [List.length_append, List.length_cons, List.length_nil]; omega, by rw [max64, bs_size]; simp only [List.length_append, List.length_cons, List.length_nil]; omega, by omega, ?_⟩
  rw [mask8 hn]
  refine Calls.then (rDigits_ok w2 _ (hp 8)) ?_
  rintro v w3 ⟨rfl, rfl⟩
  refine ⟨bs (ipPart n 2), rfl, ?_⟩
  rw [bs_app, bs_app]
  refine ⟨by rw [max64, bs_size, bs_size]; simp only [List.length_append, List.length_cons, List.length_nil]; omega, by rw [max64, bs_size]; simp only [List.length_append, List.length_cons, List.length_nil]; omega, ?_⟩
  rw [h0]
  refine Calls.then (rDigits_ok w3 _ (hp 0)) ?_
  rintro v w4 ⟨rfl, rfl⟩
  refine ⟨bs (ipPart n 3), rfl, ?_⟩
  rw [bs_app, bs_app]
  refine ⟨by rw [max64, bs_size, bs_size]; simp only [List.length_append, List.length_cons, List.length_nil]; omega, ?_⟩
  rw [← ip_join]
  exact hR

theorem mac_take (n i : Nat) : (List.range (i + 1)).map (macPart n) = (List.range i).map (macPart n) ++ [macPart n i] := by rw [List.range_succ, List.map_append]; rfl
theorem rNumber_ok (w : World) (f n : Nat) (hf : f < 11) (hn : n < 18446744073709551616) :
    Calls Tryd.prog 23 #[.int .i8 (f : Int), .int .u64 (n : Int)] w (endW (fun v w' => v = .string (bs (numTxt f n)) ∧ Chg NoS w w') (fun _ _ => False)) := by
  refine F23_calls _ _ ?_
  delta F23
  refine ⟨fun s w' => w' = w ∧ s = decide (f = 0 ∨ f = 1), ?_, ?_⟩
  · rintro s w' ⟨rfl, rfl⟩ _
    by_cases h01 : f = 0 ∨ f = 1
    · rw [if_pos (by simp [h01])]
      have hnum : numTxt f n = Lib.join ((List.range 6).map (macPart n)) [58] := by unfold numTxt; rw [if_pos h01]
      rw [hnum]
      refine ⟨fun s w1 => ∃ i : Nat, s.2 = 40 - 8 * (i : Int) ∧ i ≤ 6 ∧ Chg NoS w' w1 ∧ s.1 = bs (Lib.join ((List.range i).map (macPart n)) [58]), fun s _ => (s.2 + 8).toNat,
        ⟨(bs [], 40), ⟨rfl, rfl, trivial⟩, 0, rfl, by omega, Chg.refl _ _, rfl⟩, ?_⟩
      rintro ⟨s, z⟩ w1 ⟨i, hz, hi, hc, hs⟩ _
      dsimp only at hz hs ⊢
      subst hz hs
      have hml : ∀ l ∈ (List.range i).map (macPart n), l.length ≤ 2 := fun l hl => by simp at hl; obtain ⟨i, _, rfl⟩ := hl; rw [mac_len]; omega
      have hmp : ∀ l ∈ (List.range i).map (macPart n), 0 < l.length := fun l hl => by simp at hl; obtain ⟨i, _, rfl⟩ := hl; rw [mac_len]; omega
      have hle := join_le _ [58] 2 hml
      have hne := join_ne _ [58] hmp
      rw [List.length_map, List.length_range] at hle
      have hsn := join_snoc' ((List.range i).map (macPart n)) (macPart n i) [58]
      rw [← mac_take] at hsn
      by_cases h6 : i = 6
      · subst h6
        rw [if_neg (by simp)]
        exact ⟨rfl, hc⟩
      · rw [if_pos (by simp; omega)]
        have hb := byte_of (i := i) (m := 40) hn (by omega) (by omega) (s := 40 - 8 * (i : Int)) (by omega)
        have hw0 : 0 ≤ IntKind.wrap .u64 (40 - 8 * (i : Int)) := by rw [show (40 - 8 * (i : Int)) = ((40 - 8 * i : Nat) : Int) from by omega, w64 _ (by omega)]; omega
        rw [hb]
        have hlt : n / 2 ^ (40 - 8 * i) % 256 < 256 := Nat.mod_lt _ (by omega)
        have hstep : ∀ w2, Chg NoS w1 w2 → ∃ s' : ByteArray × Int, (Value.string s'.1 = .string (bs (Lib.join ((List.range (i + 1)).map (macPart n)) [58])) ∧ Value.int .i64 s'.2 = .int .i64 (IntKind.wrap .i64 (40 - 8 * (i : Int) - 8)) ∧ True) ∧
            (∃ i : Nat, s'.2 = 40 - 8 * (i : Int) ∧ i ≤ 6 ∧ Chg NoS w' w2 ∧ s'.1 = bs (Lib.join ((List.range i).map (macPart n)) [58])) ∧ (s'.2 + 8).toNat < (40 - 8 * (i : Int) + 8).toNat := fun w2 hc2 =>
          ⟨(bs (Lib.join ((List.range (i + 1)).map (macPart n)) [58]), 40 - 8 * ((i + 1 : Nat) : Int)), ⟨rfl, by show Value.int .i64 (40 - 8 * ((i + 1 : Nat) : Int)) = _; rw [i64w _ (by omega) (by omega)]; congr 1; omega, trivial⟩, ⟨i + 1, rfl, by omega, hc.trans hc2, rfl⟩, by show (40 - 8 * ((i + 1 : Nat) : Int) + 8).toNat < _; omega⟩
        have hi5 : i * ([58].length + 2) ≤ 5 * 3 := Nat.mul_le_mul (by omega) (by simp)
        rw [show ({ data := #[] } : ByteArray) = bs [] from rfl, show ({ data := #[58] } : ByteArray) = bs [58] from rfl, bs_beq]
        by_cases h0 : (List.range i).map (macPart n) = []
        · rw [if_neg (by simp [hne.2 h0])]
          refine ⟨hw0, ?_⟩
          refine Calls.then (rHex_ok w1 _ 2 (by omega) (by omega)) ?_
          rintro v w2 ⟨rfl, hc2⟩
          refine ⟨_, rfl, by rw [max64, bs_size, bs_size, hexs_length]; omega, ?_⟩
          rw [bs_app]
          rw [if_pos h0] at hsn
          have e : Lib.join ((List.range i).map (macPart n)) [58] ++ hexs (n / 2 ^ (40 - 8 * i) % 256) 2 = Lib.join ((List.range (i + 1)).map (macPart n)) [58] := by rw [hsn, hne.2 h0]; rfl
          rw [e]
          exact hstep w2 hc2
        · rw [if_pos (by simp; exact fun e => h0 (hne.1 e))]
          refine ⟨by rw [max64, bs_size]; omega, hw0, ?_⟩
          refine Calls.then (rHex_ok w1 _ 2 (by omega) (by omega)) ?_
          rintro v w2 ⟨rfl, hc2⟩
          refine ⟨_, rfl, ?_⟩
          rw [bs_app]
          refine ⟨by rw [max64, bs_size, bs_size, hexs_length, List.length_append]; simp only [List.length_cons, List.length_nil]; omega, ?_⟩
          rw [bs_app]
          rw [if_neg h0] at hsn
          have e : Lib.join ((List.range i).map (macPart n)) [58] ++ [58] ++ hexs (n / 2 ^ (40 - 8 * i) % 256) 2 = Lib.join ((List.range (i + 1)).map (macPart n)) [58] := by rw [hsn]; rfl
          rw [e]
          exact hstep w2 hc2
    · rw [if_neg (by simp [h01])]
      by_cases h45 : f = 4 ∨ f = 5
      · have hnum : numTxt f n = Lib.join ((List.range 4).map (ipPart n)) [46] := by unfold numTxt; rw [if_neg h01, if_pos h45]
        rw [hnum]
        rcases h45 with rfl | rfl
        · rw [if_pos (by decide), if_pos (by decide)]
          exact ⟨by omega, rIp (R := fun v w1 => v = .string (bs (Lib.join ((List.range 4).map (ipPart n)) [46])) ∧ Chg NoS w' w1) hn ⟨rfl, Chg.refl _ _⟩⟩
        · rw [if_neg (by decide), if_pos (by decide)]
          exact ⟨by omega, rIp (R := fun v w1 => v = .string (bs (Lib.join ((List.range 4).map (ipPart n)) [46])) ∧ Chg NoS w' w1) hn ⟨rfl, Chg.refl _ _⟩⟩
      · have hnum : numTxt f n = Lib.decDigits n := by unfold numTxt; rw [if_neg h01, if_neg h45]
        rw [hnum, if_neg (by simp; omega), if_neg (by simp; omega)]
        refine Calls.then (rDigits_ok w' n hn) ?_
        rintro v w1 ⟨rfl, rfl⟩
        exact ⟨_, rfl, rfl, Chg.refl _ _⟩
  · by_cases h0 : f = 0
    · rw [if_pos (by simp [h0])]
      exact ⟨_, ⟨rfl, trivial⟩, rfl, by subst h0; rfl⟩
    · rw [if_neg (by simp; omega)]
      refine ⟨_, ⟨rfl, trivial⟩, rfl, ?_⟩
      have := beq_nat f 1
      rw [show ((f : Int) == 1) = decide (f = 1) from this]
      simp [h0]
end Go.Proofs.YtjbgckpalaodaaaDoor.B
