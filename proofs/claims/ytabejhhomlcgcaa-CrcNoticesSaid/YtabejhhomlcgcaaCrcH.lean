/-
  crc: CrcNotices.
-/
import Derived.Test.YtabejhhomlcgcaaCrcG
set_option linter.unusedVariables false
set_option linter.unusedSimpArgs false
namespace Go.Proofs.Ytabejhhomlcgcaa.B
open Go Go.Proofs Go.Proofs.YtabejhhomlcgcaaEng Go.Proofs.YtabejhhomlcgcaaCrc

/-- the first i bits -/
def lowB (B : BitVec 32) : Nat → BitVec 32
  | 0 => 0#32
  | i + 1 => lowB B i ^^^ (if B.getLsbD i then 1#32 <<< i else 0#32)
theorem one_bit {i : Nat} (hi : i < 32) (j : Nat) (hj : j < 32) : (1#32 <<< i).getLsbD j = decide (j = i) := by
  have : ∀ i, i < 32 → ∀ j, j < 32 → (1#32 <<< i).getLsbD j = decide (j = i) := by decide +kernel
  exact this i hi j hj
theorem lowB_bit (B : BitVec 32) : ∀ i, i ≤ 32 → ∀ j, j < 32 → (lowB B i).getLsbD j = (decide (j < i) && B.getLsbD j)
  | 0, _, j, _ => by simp [lowB]
  | i + 1, hi, j, hj => by
    rw [lowB, BitVec.getLsbD_xor, lowB_bit B i (by omega) j hj]
    by_cases e : j = i
    · subst e
      cases hb : B.getLsbD j with
      | true => rw [if_pos rfl, one_bit (by omega) j hj]; simp
      | false => simp
    · have h1 : decide (j < i + 1) = decide (j < i) := by simp; omega
      rw [h1]
      cases hb : B.getLsbD i with
      | true => rw [if_pos rfl, one_bit (by omega) j hj]; simp [e]
      | false => simp
theorem lowB_all (B : BitVec 32) : lowB B 32 = B := by
  apply BitVec.eq_of_getLsbD_eq
  intro i hi
  rw [lowB_bit B 32 (by omega) i hi]
  simp [hi]
theorem flip_sts {K p i : Nat} (hi : i < 32) (hp : p + 32 ≤ K) : sts (K - (p + i)) 1#32 = sts (K - p) (1#32 <<< i) := by
  rw [show K - p = i + (K - (p + i)) from by omega, sts_add, sts_one hi]

theorem window (at_ : Int) {M : Nat} (h0 : 0 < M) (hM : M ≤ 1000000) : ∃ p : Nat, p < M ∧ Int.tmod (IntKind.wrap .i64 (Int.tmod at_ M + M)) M = p := by
  have h1 := Int.tmod_lt_of_pos at_ (b := (M : Int)) (by omega)
  have h2 := Int.lt_tmod_of_pos at_ (b := (M : Int)) (by omega)
  rw [i64w _ (by omega) (by omega)]
  have h3 := Int.tmod_lt_of_pos (at_.tmod M + M) (b := (M : Int)) (by omega)
  have h4 := Int.tmod_nonneg (M : Int) (a := at_.tmod M + M) (by omega)
  exact ⟨((at_.tmod M + M).tmod M).toNat, by omega, by omega⟩

theorem CrcNotices_ok {w : World} {a : Option Addr} {n c : Nat} {bs : List UInt8} (hn : bs.length = n) (hr : Reads w a (vals bs)) (h0 : a = none → n = 0) (at_ : Int) (B : BitVec 32) :
    Calls Try.prog 5 #[.slice a n c, .int .i64 at_, .int .u32 B.toNat] w (endW (fun v w' => v = .bool true ∧ Chg NoS w w') (fun _ _ => False)) := by
  refine F5_calls a n c at_ B.toNat ?_
  delta F5
  have wk : ∀ w1, Chg NoS w w1 → Calls Try.prog 13 #[] w1 (endW (fun v w' => ∃ b, v = Value.bool b ∧ Value.bool b = .bool true ∧ Chg NoS w w') (fun _ _ => False)) := fun w1 hc => by
    refine Calls.then (Wakes_ok w1) ?_
    rintro v w2 ⟨rfl, hc2⟩
    exact ⟨_, rfl, rfl, hc.trans hc2⟩
  by_cases hl : n ≤ 16384
  · refine Calls.then (Seal_ok hn hr h0 hl) ?_
    rintro v w1 ⟨a1, c1, rfl, ho1, hc1⟩
    refine ⟨[_, _], rfl, _, _, rfl, a1, _, c1, rfl, _, _, rfl, 0, rfl, rfl, ?_⟩
    by_cases hB : B = 0#32
    · refine ⟨fun _ _ => False, fun _ _ h => h.elim, ?_⟩
      rw [if_pos (by decide), if_pos (by subst hB; decide)]
      exact wk w1 hc1
    refine ⟨fun _ w2 => w2 = w1, ?_, ?_⟩
    rotate_left
    · rw [if_pos (by decide), if_neg ?_]
      · exact ⟨(), trivial, rfl⟩
      · have : ¬ B.toNat = 0 := fun e => hB (BitVec.eq_of_toNat_eq e)
        simp
        omega
    rintro _ w2 rfl _
    obtain ⟨x0, y0, z0, u0, hse, hso⟩ := opens_sealed bs
    have hrun0 : run (BitVec.allOnes 32) (bv (sealed bs)) = sts 32 (BitVec.allOnes 32) := by
      rw [hse, bv_append]
      exact (sealed_iff _ _ _ _ _).1 (of_decide_eq_true hso)
    have hlen0 := sealed_length bs
    generalize sealed bs = xs0 at *
    rw [hn] at hlen0
    have hN4 : 4 ≤ n + 4 := by omega
    have hN : n + 4 ≤ 16388 := by omega
    generalize n + 4 = N at *
    rw [if_neg (by simp; omega)]
    obtain ⟨M, hM⟩ : ∃ M, M = 8 * N - 31 := ⟨_, rfl⟩
    have hM1 : IntKind.wrap .i64 ((8 : Int) * (N : Int)) = 8 * (N : Int) := i64w _ (by omega) (by omega)
    have hM2 : IntKind.wrap .i64 ((8 : Int) * (N : Int) - 31) = (M : Int) := by rw [i64w _ (by omega) (by omega)]; omega
    obtain ⟨p, hp, hpe⟩ := window at_ (M := M) (by omega) (by omega)
    simp only [hM1, hM2, hpe]
    refine ⟨by omega, by omega, fun s w3 => ∃ i : Nat, s = i ∧ i ≤ 32 ∧ ∃ xs, Out w w3 a1 N c1 xs ∧ Chg NoS w w3 ∧ run (BitVec.allOnes 32) (bv xs) = sts 32 (BitVec.allOnes 32) ^^^ sts (8 * N - p) (lowB B i), fun s _ => (32 - s).toNat, ⟨0, ⟨rfl, trivial⟩, 0, rfl, by omega, xs0, ho1, hc1, by rw [hrun0, lowB, sts_zero, BitVec.xor_zero]⟩, ?_⟩
    rintro s w3 ⟨i, rfl, hi32, xs, ho3, hc3, hrun⟩ _
    obtain ⟨hr3, hl3, hn3, _, hcc3⟩ := own_reads_v ho3
    by_cases hi : i < 32
    · rw [if_pos (by simp; omega)]
      have hu : IntKind.wrap .u64 (i : Int) = (i : Int) := u64w _ (by omega) (by omega)
      have hpi : IntKind.wrap .i64 ((p : Int) + (i : Int)) = ((p + i : Nat) : Int) := by rw [i64w _ (by omega) (by omega)]; omega
      have hq : IntKind.wrap .i64 (Int.tdiv ((p + i : Nat) : Int) 8) = (((p + i) / 8 : Nat) : Int) := by
        rw [Int.tdiv_eq_ediv_of_nonneg (by omega), i64w _ (by omega) (by omega)]; omega
      have hrm : IntKind.wrap .u64 (Int.tmod ((p + i : Nat) : Int) 8) = (((p + i) % 8 : Nat) : Int) := by
        rw [Int.tmod_eq_emod_of_nonneg (by omega), u64w _ (by omega) (by omega)]; omega
      simp only [hu, hpi, hq, hrm, Int.toNat_natCast, Nat.min_eq_left (show i ≤ 32 by omega), fdiv32]
      refine ⟨by omega, ?_⟩
      have hnext : IntKind.wrap .i64 ((i : Int) + 1) = ((i + 1 : Nat) : Int) := by rw [i64w _ (by omega) (by omega)]; omega
      have hbit : (B >>> i).getLsbD 0 = B.getLsbD i := by rw [BitVec.getLsbD_ushiftRight]; rfl
      cases hb : B.getLsbD i with
      | false =>
        rw [if_neg (fun e => by rw [(odd_iff _).1 e] at hbit; rw [hb] at hbit; cases hbit)]
        refine ⟨((i + 1 : Nat) : Int), ⟨by rw [hnext], trivial⟩, ⟨i + 1, rfl, by omega, xs, ho3, hc3, ?_⟩, by omega⟩
        rw [hrun, lowB, hb]
        simp
      | true =>
        rw [if_pos ((odd_iff _).2 (hbit.trans hb))]
        have hqN : (p + i) / 8 < xs.length := by omega
        obtain ⟨A, hA, hcell⟩ := hr3 _ _ (vals_get hqN)
        obtain ⟨a', c', hf, _, ha'⟩ := own_form ho3
        injection hf with hf1 _ _
        subst hf1
        obtain ⟨g, rfl⟩ := ha' A hA
        subst hA
        refine ⟨by omega, by omega, by omega, _, by simpa using hcell, by omega, by omega, by omega, by omega, ?_⟩
        have h8 : (p + i) % 8 < 8 := Nat.mod_lt _ (by omega)
        have hpow : IntKind.wrap .u8 ((1 : Int) * (2 : Int) ^ min ((p + i) % 8) 8) = ((1#8 <<< ((p + i) % 8)).toNat : Int) := by
          have : ∀ r, r < 8 → IntKind.wrap .u8 ((1 : Int) * (2 : Int) ^ min r 8) = ((1#8 <<< r).toNat : Int) := by decide
          exact this _ h8
        rw [hpow, u8b, ofInt_nat, ofInt_nat, wrap8]
        simp only [wSome, addK_lit, Nat.zero_add, Nat.mul_one]
        refine setW_own (j := (p + i) / 8) (v := .int .u8 ((xs[(p + i) / 8].toBitVec ^^^ 1#8 <<< ((p + i) % 8)).toNat : Int)) ho3 (by omega) rfl ?_
        intro w4 ho4 hc4 hs4
        refine ⟨((i + 1 : Nat) : Int), ⟨by rw [hnext], trivial⟩, ⟨i + 1, rfl, by omega, xs.set ((p + i) / 8) (UInt8.ofBitVec (xs[(p + i) / 8].toBitVec ^^^ 1#8 <<< ((p + i) % 8))), ?_, hc3.trans2 hc4 (fun k hk e => ?_), ?_⟩, by omega⟩
        · unfold Out vals
          rw [List.map_set]
          exact ho4
        · have : k = g := e
          have := (own_lt' ho3 (k := g) rfl).2
          omega
        · unfold bv
          rw [List.map_set]
          have hf := run_flip h8 (xs.map UInt8.toBitVec) (BitVec.allOnes 32) ((p + i) / 8) xs[(p + i) / 8].toBitVec (by simp [hqN])
          unfold bv at hrun
          refine Eq.trans hf ?_
          rw [hrun, lowB, hb, if_pos rfl, sts_xor, ← flip_sts hi (by omega), BitVec.xor_assoc, List.length_map, hl3, show 8 * ((p + i) / 8) + (p + i) % 8 = p + i from by omega]
    · rw [if_neg (by simp; omega)]
      have : i = 32 := by omega
      subst this
      obtain ⟨ds, x, y, z, u, he, hdl⟩ := last4 (bs := xs) (by omega)
      rw [he] at hr3
      refine Calls.then (Open_ok (by omega) hcc3 hr3 (by omega) (fun _ => by omega)) ?_
      intro v w4 h
      have hno : ¬ opens ds x y z u = true := fun ho => by
        have h1 := (sealed_iff _ _ _ _ _).1 (of_decide_eq_true ho)
        have h2 : run (BitVec.allOnes 32) (bv xs) = sts 32 (BitVec.allOnes 32) := by rw [he, bv_append]; exact h1
        rw [hrun, lowB_all] at h2
        have h3 : sts (8 * N - p) B = 0#32 := by
          have := congrArg (fun x => sts 32 (BitVec.allOnes 32) ^^^ x) h2
          rw [← BitVec.xor_assoc, BitVec.xor_self, BitVec.zero_xor] at this
          exact this
        exact sts_ne _ hB h3
      unfold OpenEnd at h
      rw [if_neg hno] at h
      obtain ⟨rfl, hc4⟩ := h
      refine ⟨[_, _], rfl, _, _, rfl, none, 0, 0, rfl, _, _, rfl, 50, rfl, rfl, ?_⟩
      rw [if_pos (by decide)]
      exact wk w4 (hc3.trans hc4)
  · refine Calls.then (Seal_long (by omega)) ?_
    rintro v w1 ⟨rfl, rfl⟩
    refine ⟨[_, _], rfl, _, _, rfl, none, 0, 0, rfl, _, _, rfl, 3, rfl, rfl, ?_⟩
    refine ⟨fun _ _ => False, fun _ _ h => h.elim, ?_⟩
    rw [if_neg (by decide)]
    exact wk w1 (Chg.refl _ _)
theorem CrcNotices_walk (a0 : Option Addr) (len0 cap0 : Nat) (a1 : Int) (a2 : Int) (w : World) (i0 : Is maxLen Try.prog w 12 22 [.slice a0 len0 cap0]) (i1 : Is maxLen Try.prog w 12 3 [.int .i64 a1]) (i2 : Is maxLen Try.prog w 12 26 [.int .u32 a2]) :
    Calls Try.prog 5 #[.slice a0 len0 cap0, .int .i64 a1, .int .u32 a2] w (endW (fun v w' => v = .bool true ∧ Chg NoS w w') (fun _ _ => False)) := by
  obtain ⟨bs, h1, h2, h3, h4, h5⟩ := bytes_of_is i0
  obtain ⟨z, e, hz⟩ := i2.int Try.underlying26
  injection e with e _
  injection e with _ e
  subst e
  have hw : 0 ≤ a2 ∧ a2 ≤ 4294967295 := by simpa [Lit.wf, IntKind.min, IntKind.max, IntKind.signed, IntKind.bits] using hz
  have he : a2 = ((BitVec.ofNat 32 a2.toNat).toNat : Int) := by
    rw [BitVec.toNat_ofNat, Nat.mod_eq_of_lt (by omega)]; omega
  rw [he]
  exact CrcNotices_ok h1 h5 h4 a1 _
end Go.Proofs.Ytabejhhomlcgcaa.B
