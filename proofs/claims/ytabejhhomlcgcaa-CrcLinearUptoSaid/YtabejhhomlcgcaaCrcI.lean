/-
  crc: CrcLinear.
-/
import Derived.Test.YtabejhhomlcgcaaCrcF
import Derived.Test.YtabejhhomlcgcaaBB
import Derived.Laws.Small
set_option linter.unusedVariables false
set_option linter.unusedSimpArgs false
namespace Go.Proofs.Ytabejhhomlcgcaa.B
open Go Go.Proofs Go.Proofs.YtabejhhomlcgcaaEng Go.Proofs.YtabejhhomlcgcaaCrc

theorem xw (p q : BitVec 32) : IntKind.wrap .u32 (BitVec.toNat (BitVec.ofInt 32 (p.toNat : Int) ^^^ BitVec.ofInt 32 (q.toNat : Int)) : Int) = ((p ^^^ q).toNat : Int) := by
  rw [ofInt_nat, ofInt_nat, wrap32]
theorem kept_of {w w' : World} (h : Chg NoS w w') : Kept NoS w w' := ⟨h.size, fun b hb _ => h.block b hb (fun x => x)⟩

theorem CrcLinear_ok {w : World} {a0 b0 : Option Addr} {n m c d : Nat} {xa bs : List UInt8} (hn : xa.length = n) (hm : bs.length = m) (hc : n ≤ c) (hd : m ≤ d) (hnl : n ≤ 1048576) (hml : m ≤ 1048576) (hra : Reads w a0 (vals xa)) (hrb : Reads w b0 (vals bs)) :
    Calls Try.prog 6 #[.slice a0 n c, .slice b0 m d] w (endW (fun v w' => v = .bool true ∧ Chg NoS w w') (fun _ _ => False)) := by
  refine F6_calls a0 n c b0 m d ?_
  delta F6
  refine runV_of_ok (run_min_int2 (P := Try.prog) _ _ _ _ _ _ _) ?_
  obtain ⟨k, hk, hkn, hkm⟩ : ∃ k : Nat, (if (m : Int) < (n : Int) then (m : Int) else (n : Int)) = (k : Int) ∧ k ≤ n ∧ k ≤ m := by
    by_cases h : (m : Int) < n
    · exact ⟨m, by rw [if_pos h], by omega, by omega⟩
    · exact ⟨n, by rw [if_neg h], by omega, by omega⟩
  rw [hk]
  refine ⟨_, rfl, ?_⟩
  have hA : (xa.take k).length = k := by rw [List.length_take]; omega
  have hB : (bs.take k).length = k := by rw [List.length_take]; omega
  have hrA : Reads w a0 (vals (xa.take k)) := by
    have := reads_take hra k
    unfold vals at *
    rwa [List.map_take]
  have hrB : Reads w b0 (vals (bs.take k)) := by
    have := reads_take hrb k
    unfold vals at *
    rwa [List.map_take]
  generalize xa.take k = A at *
  generalize bs.take k = B at *
  obtain ⟨Z, hZd⟩ : ∃ Z, Z = List.zipWith (· ^^^ ·) A B := ⟨_, rfl⟩
  have hZ : Z.length = k := by rw [hZd, List.length_zipWith]; omega
  have hZe : ∀ (i : Nat) (hA' : i < A.length) (hB' : i < B.length), Z[i]? = some (A[i] ^^^ B[i]) := fun i h1 h2 => by
    rw [hZd, List.getElem?_zipWith, List.getElem?_eq_getElem h1, List.getElem?_eq_getElem h2]
  have hbv : bv Z = List.zipWith (· ^^^ ·) (bv A) (bv B) := by
    rw [hZd]
    unfold bv
    rw [List.map_zipWith, List.zipWith_map]
    rfl
  clear hZd
  refine bytes_zero (n := k) bT rfl rfl (by omega) (Nat.le_refl _) ?_
  intro w1 ho1 hc1 hs1
  refine ⟨_, _, _, rfl, ?_⟩
  refine ⟨fun s w2 => ∃ i : Nat, s = i ∧ i ≤ k ∧ ∃ xs : List UInt8, xs.length = k ∧ Out w w2 (some ⟨w.heap.size, 0, none⟩) k k xs ∧ Chg NoS w w2 ∧ ∀ j, j < i → xs[j]? = Z[j]?, fun s _ => (k - s).toNat, ⟨0, ⟨rfl, trivial⟩, 0, rfl, by omega, _, by simp, ho1, hc1, fun j h => by omega⟩, ?_⟩
  rintro s w2 ⟨i, rfl, hi, xs, hxl, ho2, hc2, hxe⟩ _
  by_cases h : (i : Int) < k
  · rw [if_pos (by simpa using h)]
    have hi' : i < k := by omega
    have hc2d := hc2.trans (chg_drew w2 NoS)
    obtain ⟨A0, rfl, hca⟩ := (hrA.chg hc2d (fun _ _ x => x)) i _ (vals_get (by omega))
    obtain ⟨B0, rfl, hcb⟩ := (hrB.chg hc2d (fun _ _ x => x)) i _ (vals_get (by omega))
    refine ⟨by omega, by omega, by omega, by omega, _, by simpa using hca, _, by simpa using hcb, by omega, by omega, ?_⟩
    rw [u8b, u8b, ofInt_nat, ofInt_nat, wrap8]
    simp only [wSome, addK_lit, Nat.zero_add, Nat.mul_one, Int.toNat_natCast]
    refine setW_own (j := i) (v := .int .u8 ((A[i].toBitVec ^^^ B[i].toBitVec).toNat : Int)) (Out.chg ho2 (chg_drew w2 NoS) (fun _ _ x => x)) (by omega) rfl ?_
    intro w3 ho3 hc3 hs3
    refine ⟨(i : Int) + 1, ⟨by rw [i64w _ (by omega) (by omega)], trivial⟩, ⟨i + 1, by omega, by omega, xs.set i (A[i] ^^^ B[i]), by rw [List.length_set]; exact hxl, ?_, hc2d.trans2 hc3 (fun q hq e => by have : q = w.heap.size := e; omega), fun j hj => ?_⟩, by omega⟩
    · unfold Out vals
      rw [List.map_set]
      exact ho3
    · rw [List.getElem?_set]
      by_cases e : i = j
      · subst e
        rw [if_pos rfl, if_pos (by omega), hZe i (by omega) (by omega)]
      · rw [if_neg e]
        exact hxe j (by omega)
  rw [if_neg (by simpa using h)]
  have hik : i = k := by omega
  subst hik
  have hxZ : xs = Z := by
    apply List.ext_getElem?
    intro j
    by_cases hj : j < i
    · exact hxe j hj
    · rw [List.getElem?_eq_none (by omega), List.getElem?_eq_none (by omega)]
  subst hxZ
  refine ⟨NoS, by omega, by omega, by omega, by omega, ?_⟩
  simp only [cut0, Int.toNat_natCast, Nat.sub_zero]
  have hcd := chg_drew w2 NoS
  have hc2d := hc2.trans hcd
  have hrx := (own_reads_v (Out.chg ho2 hcd (fun _ _ x => x))).1
  have hrA2 := hrA.chg hc2d (fun _ _ x => x)
  have hrB2 := hrB.chg hc2d (fun _ _ x => x)
  generalize w2.drew = w4 at *
  -- the pieces, in any order
  have sum : ∀ {a : Option Addr} {c' : Nat} {ys : List UInt8} {w5 : World} {Q : Value → World → Prop}, ys.length = i → Reads w5 a (vals ys) → (∀ w6, Chg NoS w5 w6 → Q (n32 (crc (bv ys))) w6) →
      Calls Try.prog 11 #[.slice a i c'] w5 (endW Q (fun _ _ => False)) := fun hy hr hQ => by
    refine Calls.then (Sum_ok hy hr (by omega)) ?_
    rintro v w6 ⟨rfl, hc6⟩
    exact hQ w6 hc6
  have mk : ∀ {w5 : World} {Q : Value → World → Prop}, (∀ w6, Chg NoS w5 w6 → Reads w6 (some ⟨w5.heap.size, 0, none⟩) (vals (List.replicate i 0)) → Q (.slice (some ⟨w5.heap.size, 0, none⟩) i i) w6) →
      runV Try.prog (Instr.makeSlice 22 (.int .i64 (i : Int)) (.int .i64 (i : Int))) w5 Q (fun _ _ => False) := fun hQ => by
    refine bytes_zero (n := i) bT rfl rfl (by omega) (Nat.le_refl _) ?_
    intro w6 ho6 hc6 hs6
    exact hQ w6 hc6 (own_reads_v ho6).1
  have fin : ∀ w5, Chg NoS w4 w5 → (if (IntKind.wrap IntKind.u32 (↑(BitVec.toNat (BitVec.ofInt (32 : Nat) (IntKind.wrap IntKind.u32 (↑(BitVec.toNat (BitVec.ofInt (32 : Nat) (IntKind.wrap IntKind.u32 (↑(BitVec.toNat (BitVec.ofInt (32 : Nat) ((crc (bv A)).toNat : Int) ^^^ BitVec.ofInt (32 : Nat) ((crc (bv B)).toNat : Int))) : Int)) ^^^ BitVec.ofInt (32 : Nat) ((crc (bv xs)).toNat : Int))) : Int)) ^^^ BitVec.ofInt (32 : Nat) ((crc (bv (List.replicate i 0))).toNat : Int))) : Int) == (0 : Int)) = Bool.true then Calls Try.prog (13 : Nat) #[] w5 (endW (fun (v : Value) (w' : World) => ∃ (b : Bool), v = Value.bool b ∧ Kept NoS w4 w' ∧ (Value.bool b = .bool true ∧ Chg NoS w w')) fun (c : List PanicEntry) (w : World) => False) else (Value.bool Bool.false = .bool true ∧ Chg NoS w w5)) := fun w5 hc5 => by
    have hz : bv (List.replicate i 0) = List.replicate (bv A).length 0#8 := by
      rw [bv_length, hA]
      unfold bv
      rw [List.map_replicate]
      rfl
    have hlin := crc_linear (a := bv A) (b := bv B) (by rw [bv_length, bv_length]; omega)
    rw [xw, xw, xw, hz, hbv, hlin, if_pos (by decide)]
    refine Calls.then (Wakes_ok w5) ?_
    rintro v w6 ⟨rfl, hc6⟩
    exact ⟨_, rfl, kept_of (hc5.trans hc6), rfl, (hc2d.trans hc5).trans hc6⟩
  have kp : ∀ {w5 : World}, Chg NoS w4 w5 → Kept NoS w4 w5 := fun h => kept_of h
  have ra : ∀ {w5 : World}, Chg NoS w4 w5 → Reads w5 a0 (vals A) := fun h => hrA2.chg h (fun _ _ x => x)
  have rb : ∀ {w5 : World}, Chg NoS w4 w5 → Reads w5 b0 (vals B) := fun h => hrB2.chg h (fun _ _ x => x)
  have rx : ∀ {w5 : World}, Chg NoS w4 w5 → Reads w5 (some ⟨w.heap.size, 0, none⟩) (vals xs) := fun h => hrx.chg h (fun _ _ x => x)
  have l0 : (List.replicate i (0 : UInt8)).length = i := by simp
  refine ⟨sum hA hrA2 fun w5 h5 => ⟨_, rfl, kp h5, ⟨sum hB (rb h5) fun w6 h6 => ⟨_, rfl, kp (h5.trans h6), ⟨sum hxl (rx (h5.trans h6)) fun w7 h7 => ⟨_, rfl, kp ((h5.trans h6).trans h7), ⟨mk fun w8 h8 r8 => ⟨_, _, _, rfl, kp (((h5.trans h6).trans h7).trans h8), ⟨sum l0 r8 fun w9 h9 => ⟨_, rfl, kp ((((h5.trans h6).trans h7).trans h8).trans h9), ⟨fin w9 ((((h5.trans h6).trans h7).trans h8).trans h9), trivial⟩⟩, trivial⟩⟩, trivial⟩⟩, ⟨mk fun w7 h7 r7 => ⟨_, _, _, rfl, kp ((h5.trans h6).trans h7), ⟨sum hxl (rx ((h5.trans h6).trans h7)) fun w8 h8 => ⟨_, rfl, kp (((h5.trans h6).trans h7).trans h8), ⟨sum l0 (r7.chg h8 (fun _ _ x => x)) fun w9 h9 => ⟨_, rfl, kp ((((h5.trans h6).trans h7).trans h8).trans h9), ⟨fin w9 ((((h5.trans h6).trans h7).trans h8).trans h9), trivial⟩⟩, trivial⟩⟩, trivial⟩⟩, trivial⟩⟩⟩,
    ⟨mk fun w6 h6 r6 => ⟨_, _, _, rfl, kp (h5.trans h6), ⟨sum hB (rb (h5.trans h6)) fun w7 h7 => ⟨_, rfl, kp ((h5.trans h6).trans h7), ⟨sum hxl (rx ((h5.trans h6).trans h7)) fun w8 h8 => ⟨_, rfl, kp (((h5.trans h6).trans h7).trans h8), ⟨sum l0 (r6.chg (h7.trans h8) (fun _ _ x => x)) fun w9 h9 => ⟨_, rfl, kp ((((h5.trans h6).trans h7).trans h8).trans h9), ⟨fin w9 ((((h5.trans h6).trans h7).trans h8).trans h9), trivial⟩⟩, trivial⟩⟩, trivial⟩⟩, trivial⟩⟩, trivial⟩⟩⟩,
    ⟨mk fun w5 h5 r5 => ⟨_, _, _, rfl, kp h5, ⟨sum hA (ra h5) fun w6 h6 => ⟨_, rfl, kp (h5.trans h6), ⟨sum hB (rb (h5.trans h6)) fun w7 h7 => ⟨_, rfl, kp ((h5.trans h6).trans h7), ⟨sum hxl (rx ((h5.trans h6).trans h7)) fun w8 h8 => ⟨_, rfl, kp (((h5.trans h6).trans h7).trans h8), ⟨sum l0 (r5.chg ((h6.trans h7).trans h8) (fun _ _ x => x)) fun w9 h9 => ⟨_, rfl, kp ((((h5.trans h6).trans h7).trans h8).trans h9), ⟨fin w9 ((((h5.trans h6).trans h7).trans h8).trans h9), trivial⟩⟩, trivial⟩⟩, trivial⟩⟩, trivial⟩⟩, trivial⟩⟩, trivial⟩⟩
theorem CrcLinear_walk (a0 : Option Addr) (len0 cap0 : Nat) (a1 : Option Addr) (len1 cap1 : Nat) (w : World) (i0 : Is 1048576 Try.prog w 12 22 [.slice a0 len0 cap0]) (i1 : Is 1048576 Try.prog w 12 22 [.slice a1 len1 cap1]) :
    Calls Try.prog 6 #[.slice a0 len0 cap0, .slice a1 len1 cap1] w (endW (fun v w' => v = .bool true ∧ Chg NoS w w') (fun _ _ => False)) := by
  obtain ⟨xa, h1, h2, h3, h4, h5⟩ := bytes_of_is i0
  obtain ⟨bs, g1, g2, g3, g4, g5⟩ := bytes_of_is i1
  exact CrcLinear_ok h1 g1 h2 g2 (by omega) (by omega) h5 g5
end Go.Proofs.Ytabejhhomlcgcaa.B
