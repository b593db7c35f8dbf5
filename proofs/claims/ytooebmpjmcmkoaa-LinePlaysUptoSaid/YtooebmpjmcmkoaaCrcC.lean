/-
  crc: the walks of Sum, the program's and the document's.
-/
import Derived.Test.YtooebmpjmcmkoaaCrcB
set_option linter.unusedVariables false
set_option linter.unusedSimpArgs false
namespace Go.Proofs.Ytooebmpjmcmkoaa.S
open Go Go.Proofs Go.Proofs.Ytooebmpjmcmkoaa.B Go.Proofs.YtooebmpjmcmkoaaEng Go.Proofs.YtooebmpjmcmkoaaCrc

def bv (bs : List UInt8) : List (BitVec 8) := bs.map UInt8.toBitVec
theorem bv_length (bs : List UInt8) : (bv bs).length = bs.length := by simp [bv]
theorem bv_append (a b : List UInt8) : bv (a ++ b) = bv a ++ bv b := by simp [bv]
theorem bv_take (bs : List UInt8) (k : Nat) : bv (bs.take k) = (bv bs).take k := by simp [bv, List.map_take]
theorem run_take {n : BitVec 32} {bs : List UInt8} {j : Nat} (h : j < bs.length) : run n (bv (bs.take (j + 1))) = bst (run n (bv (bs.take j))) bs[j].toBitVec := by
  have e : bs.take (j + 1) = bs.take j ++ [bs[j]] := by simp
  rw [e, bv_append]
  exact run_snoc _ _ _
theorem not_prog (m : BitVec 32) : IntKind.wrap .u32 (BitVec.toNat (BitVec.ofInt 32 (if IntKind.signed IntKind.u32 = Bool.true then (-1 : Int) else IntKind.max IntKind.u32) ^^^ BitVec.ofInt 32 (m.toNat : Int)) : Int) = ((~~~ m).toNat : Int) := by
  rw [ofInt_nat, show BitVec.ofInt 32 (if IntKind.signed IntKind.u32 = Bool.true then (-1 : Int) else IntKind.max IntKind.u32) = BitVec.allOnes 32 from by decide, wrap32, BitVec.allOnes_xor]

set_option maxRecDepth 20000 in
theorem Sum_ok {w : World} {a : Option Addr} {n c : Nat} {bs : List UInt8} (hn : bs.length = n) (hr : Reads w a (vals bs)) (hl : n ≤ 9223372036854775806) :
    Calls Try.prog 42 #[.slice a n c] w (endW (fun v w' => v = n32 (crc (bv bs)) ∧ Chg NoS w w') (fun _ _ => False)) := by
  subst hn
  refine F42_calls a bs.length c ?_
  delta F42
  refine ⟨fun s w' => 0 ≤ s.2 ∧ s.2 ≤ bs.length ∧ s.1 = ((run (BitVec.allOnes 32) (bv (bs.take s.2.toNat))).toNat : Int) ∧ Tab w' w.heap.size ∧ Chg NoS w w', fun s _ => (bs.length - s.2).toNat, ⟨(4294967295, 0), ⟨rfl, rfl, trivial⟩, by simp, by simp, rfl, ⟨_, blk_alloc w _, rfl, rfl, .inl rfl⟩, chg_alloc w _ NoS⟩, ?_⟩
  rintro ⟨m, i⟩ w1 ⟨h0, h1, hm, ht, hc⟩ _
  dsimp only at h0 h1 hm ⊢
  subst hm
  obtain ⟨j, rfl⟩ := Int.eq_ofNat_of_zero_le h0
  simp only [Int.toNat_natCast] at *
  by_cases h : (j : Int) < bs.length
  · rw [if_pos (by simpa using h)]
    have hj : j < bs.length := by omega
    obtain ⟨A, rfl, hcell⟩ := (hr.chg hc (fun _ _ x => x)) j _ (vals_get hj)
    refine ⟨h0, h, _, by simpa using hcell, by omega, ?_⟩
    rw [low8, ofInt_nat, u8b, ofInt_nat, wrap8]
    refine Calls.then (Of_ok ht (BitVec.isLt _)) ?_
    rintro v w2 ⟨rfl, ht2, hc2⟩
    refine ⟨_, rfl, (((run (BitVec.allOnes 32) (bv (bs.take (j + 1)))).toNat : Int), (j : Int) + 1), ⟨?_, ?_, trivial⟩, ⟨by dsimp only; omega, by dsimp only; omega, rfl, ht2, hc.trans2 hc2 (fun k hk e => by have : k = w.heap.size := e; omega)⟩, by dsimp only; omega⟩
    · rw [fdiv32, ofInt_nat, ofInt_nat, wrap32, run_take hj, bst_tab]
    · rw [i64w _ (by omega) (by omega)]
  · rw [if_neg (by simpa using h)]
    have : j = bs.length := by omega
    subst this
    refine ⟨?_, hc⟩
    rw [not_prog, List.take_length]
    rfl

theorem rSum_ok {w : World} {a : Option Addr} {n c : Nat} {bs : List UInt8} (hn : bs.length = n) (hr : Reads w a (vals bs)) (hl : n ≤ 9223372036854775806) :
    Calls Try.prog 46 #[.slice a n c] w (endW (fun v w' => v = n32 (crc (bv bs)) ∧ w' = w) (fun _ _ => False)) := by
  subst hn
  refine F46_calls a bs.length c ?_
  delta F46
  refine ⟨fun s w' => w' = w ∧ 0 ≤ s.2 ∧ s.2 ≤ bs.length ∧ s.1 = ((run (BitVec.allOnes 32) (bv (bs.take s.2.toNat))).toNat : Int), fun s _ => (bs.length - s.2).toNat, ⟨(4294967295, 0), ⟨rfl, rfl, trivial⟩, rfl, by simp, by simp, rfl⟩, ?_⟩
  rintro ⟨m, i⟩ w1 ⟨rfl, h0, h1, hm⟩ _
  dsimp only at h0 h1 hm ⊢
  subst hm
  obtain ⟨j, rfl⟩ := Int.eq_ofNat_of_zero_le h0
  simp only [Int.toNat_natCast] at *
  by_cases h : (j : Int) < bs.length
  · rw [if_pos (by simpa using h)]
    have hj : j < bs.length := by omega
    obtain ⟨A, rfl, hcell⟩ := hr j _ (vals_get hj)
    refine ⟨h0, h, _, by simpa using hcell, ?_⟩
    rw [ofInt_nat, u8b, wide32, ofInt_nat, wrap32]
    refine ⟨fun t w2 => w2 = w1 ∧ 0 ≤ t.2 ∧ t.2 ≤ 8 ∧ t.1 = ((sts t.2.toNat (run (BitVec.allOnes 32) (bv (bs.take j)) ^^^ bs[j].toBitVec.setWidth 32)).toNat : Int), fun t _ => (8 - t.2).toNat, ⟨(_, 0), ⟨rfl, rfl, trivial⟩, rfl, by simp, by simp, rfl⟩, ?_⟩
    rintro ⟨m, i⟩ w2 ⟨rfl, k0, k8, hm⟩ _
    dsimp only at k0 k8 hm ⊢
    subst hm
    obtain ⟨k, rfl⟩ := Int.eq_ofNat_of_zero_le k0
    simp only [Int.toNat_natCast] at *
    generalize hx : run (BitVec.allOnes 32) (bv (bs.take j)) ^^^ bs[j].toBitVec.setWidth 32 = x
    by_cases hk : (k : Int) < 8
    · rw [if_pos (by simpa using hk)]
      cases hb : (sts k x).getLsbD 0 with
      | true =>
        rw [if_pos ((odd_iff _).2 hb)]
        refine ⟨by omega, (((sts (k + 1) x).toNat : Int), (k : Int) + 1), ⟨?_, ?_, trivial⟩, ⟨by trivial, by dsimp only; omega, by dsimp only; omega, rfl⟩, by dsimp only; omega⟩
        · rw [st_ref1 _ hb, sts_succ]
        · rw [i64w _ (by omega) (by omega)]
      | false =>
        rw [if_neg (fun e => by rw [(odd_iff _).1 e] at hb; cases hb)]
        refine ⟨by omega, (((sts (k + 1) x).toNat : Int), (k : Int) + 1), ⟨?_, ?_, trivial⟩, ⟨by trivial, by dsimp only; omega, by dsimp only; omega, rfl⟩, by dsimp only; omega⟩
        · rw [st_ref0 _ hb, sts_succ]
        · rw [i64w _ (by omega) (by omega)]
    · rw [if_neg (by simpa using hk)]
      have : k = 8 := by omega
      subst this
      refine ⟨(((run (BitVec.allOnes 32) (bv (bs.take (j + 1)))).toNat : Int), (j : Int) + 1), ⟨?_, ?_, trivial⟩, ⟨by trivial, by dsimp only; omega, by dsimp only; omega, rfl⟩, by dsimp only; omega⟩
      · rw [run_take hj, ← hx]; rfl
      · rw [i64w _ (by omega) (by omega)]
  · rw [if_neg (by simpa using h)]
    have : j = bs.length := by omega
    subst this
    refine ⟨?_, by trivial⟩
    rw [not_prog, List.take_length]
    rfl
end Go.Proofs.Ytooebmpjmcmkoaa.S
