/-
  crc: what the law asks of nine bytes; CrcBack.
-/
import Derived.Test.YtabejhhomlcgcaaCrcE
import Derived.Test.YtabejhhomlcgcaaEngO
set_option linter.unusedVariables false
set_option linter.unusedSimpArgs false
namespace Go.Proofs.Ytabejhhomlcgcaa.B
open Go Go.Proofs Go.Proofs.YtabejhhomlcgcaaEng Go.Proofs.YtabejhhomlcgcaaCrc

theorem opens_sealed (bs : List UInt8) : ∃ x y z u, sealed bs = bs ++ [x, y, z, u] ∧ opens bs x y z u = true :=
  ⟨_, _, _, _, rfl, decide_eq_true (un4_le4 _).symm⟩
/-- What was sealed is opened. -/
theorem Open_sealed {w : World} {a : Option Addr} {n c : Nat} {bs : List UInt8} (hn : bs.length = n) (hl : n ≤ 16384) (hc : n + 4 ≤ c) (hr : Reads w a (vals (sealed bs))) :
    Calls Try.prog 9 #[.slice a (n + 4) c] w (endW (fun v w' => ∃ a' c', v = .tuple #[.slice a' n c', .int .i64 0] ∧ Out w w' a' n c' bs ∧ Chg NoS w w') (fun _ _ => False)) := by
  subst hn
  obtain ⟨x, y, z, u, he, ho⟩ := opens_sealed bs
  rw [he] at hr
  refine Calls.then (Open_ok rfl hc hr (by omega) (fun _ => by omega)) ?_
  intro v w' h
  unfold OpenEnd at h
  rw [if_pos ho] at h
  exact h
def nine : List UInt8 := [49, 50, 51, 52, 53, 54, 55, 56, 57]
theorem crc_nine : crc (bv nine) = 3421780262#32 := by decide +kernel
theorem Wakes_ok (w : World) : Calls Try.prog 13 #[] w (endW (fun v w' => v = .bool true ∧ Chg NoS w w') (fun _ _ => False)) := by
  refine F13_calls ?_
  delta F13
  refine conv_const Try.underlying22 Try.underlying5 ?_
  intro w1 hb1 hr1 hc1 hs1
  have hr1' : Reads w1 (some ⟨w.heap.size, 0, none⟩) (vals nine) := hr1
  refine ⟨_, _, _, rfl, ?_⟩
  refine Calls.then (Seal_ok (bs := nine) rfl hr1' (fun e => by cases e) (by omega)) ?_
  rintro v w2 ⟨a2, c2, rfl, ho2, hc2⟩
  obtain ⟨hr2, _, _, _, hnc2⟩ := own_reads_v ho2
  refine ⟨[_, _], rfl, _, _, rfl, a2, _, c2, rfl, _, _, rfl, 0, rfl, rfl, ?_⟩
  refine Calls.then (Open_sealed (bs := nine) rfl (by omega) hnc2 hr2) ?_
  rintro v w3 ⟨a3, c3, rfl, ho3, hc3⟩
  refine ⟨[_, _], rfl, _, _, rfl, a3, _, c3, rfl, _, _, rfl, 0, rfl, rfl, ?_⟩
  refine conv_const Try.underlying22 Try.underlying5 ?_
  intro w4 hb4 hr4 hc4 hs4
  have hr4' : Reads w4 (some ⟨w3.heap.size, 0, none⟩) (vals nine) := hr4
  refine ⟨_, _, _, rfl, ?_⟩
  refine Calls.then (Sum_ok (bs := nine) rfl hr4' (by omega)) ?_
  rintro v w5 ⟨rfl, hc5⟩
  refine ⟨_, rfl, ?_⟩
  rw [crc_nine, if_pos (by decide), if_pos (by decide), if_pos (by decide)]
  refine bytes_str (bs := nine) bT Try.underlying9 rfl (own_reads_v (ho3.chg (hc4.trans hc5) (fun _ _ x => x))).1 ?_
  refine ⟨_, rfl, ?_, (((hc1.trans hc2).trans hc3).trans hc4).trans hc5⟩
  exact congrArg Value.bool (beq_self_eq_true (ByteArray.toList ⟨nine.toArray⟩))

theorem CrcBack_ok {w : World} {a : Option Addr} {n c : Nat} {bs : List UInt8} (hn : bs.length = n) (hr : Reads w a (vals bs)) (h0 : a = none → n = 0) :
    Calls Try.prog 4 #[.slice a n c] w (endW (fun v w' => v = .bool true ∧ Chg NoS w w') (fun _ _ => False)) := by
  refine F4_calls a n c ?_
  delta F4
  by_cases hl : n ≤ 16384
  · refine Calls.then (Seal_ok hn hr h0 hl) ?_
    rintro v w1 ⟨a1, c1, rfl, ho1, hc1⟩
    obtain ⟨hr1, _, _, _, hnc1⟩ := own_reads_v ho1
    refine ⟨[_, _], rfl, _, _, rfl, a1, _, c1, rfl, _, _, rfl, 0, rfl, rfl, ?_⟩
    rw [if_neg (by decide)]
    refine Calls.then (Open_sealed hn hl hnc1 hr1) ?_
    rintro v w2 ⟨a2, c2, rfl, ho2, hc2⟩
    refine ⟨[_, _], rfl, _, _, rfl, a2, _, c2, rfl, _, _, rfl, 0, rfl, rfl, ?_⟩
    rw [if_pos (by decide)]
    refine bytes_str bT Try.underlying9 hn (own_reads_v ho2).1 ?_
    refine ⟨_, rfl, ?_⟩
    refine bytes_str bT Try.underlying9 hn (hr.chg (hc1.trans hc2) (fun _ _ x => x)) ?_
    refine ⟨_, rfl, ?_⟩
    rw [if_pos (by simp)]
    refine Calls.then (Wakes_ok w2) ?_
    rintro v w3 ⟨rfl, hc3⟩
    exact ⟨_, rfl, rfl, (hc1.trans hc2).trans hc3⟩
  · refine Calls.then (Seal_long (by omega)) ?_
    rintro v w1 ⟨rfl, rfl⟩
    refine ⟨[_, _], rfl, _, _, rfl, none, 0, 0, rfl, _, _, rfl, 3, rfl, rfl, ?_⟩
    rw [if_pos (by decide), if_pos (by decide), if_pos (by simp; omega)]
    refine Calls.then (Wakes_ok w1) ?_
    rintro v w3 ⟨rfl, hc3⟩
    exact ⟨_, rfl, rfl, hc3⟩

/-- bytes that came in -/
theorem bytes_of_is {B : Nat} {w : World} {m : Nat} {a : Option Addr} {n c : Nat} (h : Is B Try.prog w (m + 2) 22 [.slice a n c]) : ∃ bs : List UInt8, bs.length = n ∧ n ≤ c ∧ c ≤ B ∧ (a = none → n = 0) ∧ Reads w a (vals bs) := by
  obtain ⟨a', n', c', e, h1, h2, h3, zs, h4, h5, h6⟩ := h.ints Try.underlying22 Try.underlying5 (by kernel_rfl)
  injection e with e _
  injection e with e1 e2 e3
  subst e1
  subst e2
  subst e3
  refine ⟨zs.map fun z => UInt8.ofNat z.toNat, by simpa using h4, h1, h2, fun e => by have := h3 e; omega, ?_⟩
  have : vals (zs.map fun z => UInt8.ofNat z.toNat) = zs.map (Value.int .u8) := by
    unfold vals
    rw [List.map_map]
    refine List.map_congr_left fun z hz => ?_
    have hw : 0 ≤ z ∧ z ≤ 255 := by simpa [Lit.wf, IntKind.min, IntKind.max, IntKind.signed, IntKind.bits] using h5 z hz
    simp only [Function.comp]
    congr 1
    rw [UInt8.toNat_ofNat']
    omega
  rw [this]
  exact h6
theorem CrcBack_walk (a0 : Option Addr) (len0 cap0 : Nat) (w : World) (i0 : Is maxLen Try.prog w 12 22 [.slice a0 len0 cap0]) :
    Calls Try.prog 4 #[.slice a0 len0 cap0] w (endW (fun v w' => v = .bool true ∧ Chg NoS w w') (fun _ _ => False)) := by
  obtain ⟨bs, h1, h2, h3, h4, h5⟩ := bytes_of_is i0
  exact CrcBack_ok h1 h5 h4
end Go.Proofs.Ytabejhhomlcgcaa.B
