/-
  crc: the walks of Seal and Open, the program's and the document's.
-/
import Derived.Test.YtooebmpjmcmkoaaCrcC
set_option maxRecDepth 100000
set_option linter.unusedVariables false
set_option linter.unusedSimpArgs false
namespace Go.Proofs.Ytooebmpjmcmkoaa.S
open Go Go.Proofs Go.Proofs.Ytooebmpjmcmkoaa.B Go.Proofs.YtooebmpjmcmkoaaEng Go.Proofs.YtooebmpjmcmkoaaCrc

theorem bT : ByteT Try.prog 31 5 := ⟨Try.underlying31, by kernel_rfl, Try.underlying5⟩
def tail4 (m : BitVec 32) : List UInt8 := (le4 m).map UInt8.ofBitVec
def sealed (bs : List UInt8) : List UInt8 := bs ++ tail4 (crc (bv bs))
theorem bv_tail4 (m : BitVec 32) : bv (tail4 m) = le4 m := rfl
theorem sealed_length (bs : List UInt8) : (sealed bs).length = bs.length + 4 := by simp [sealed, tail4, le4]

/-- A row of bytes of the call's own, new since w. -/
def Out (w w' : World) (a : Option Addr) (n c : Nat) (bs : List UInt8) : Prop := w'.ownsRow w.heap.size 5 1 (.slice a n c) n (vals bs)
theorem Out.chg {S : Nat → Prop} {w w1 w2 : World} {a : Option Addr} {n c : Nat} {bs : List UInt8} (h : Out w w1 a n c bs) (hc : Chg S w1 w2) (hs : ∀ k, w.heap.size ≤ k → ¬ S k) : Out w w2 a n c bs :=
  own_of_chg h hc fun k hk => hs k (own_lt' h hk).2

theorem Seal_long {w : World} {a : Option Addr} {n c : Nat} (hl : 16384 < n) :
    Calls Try.prog 36 #[.slice a n c] w (endW (fun v w' => v = .tuple #[.slice none 0 0, .int .i64 3] ∧ w' = w) (fun _ _ => False)) := by
  refine F36_calls a n c ?_
  delta F36
  rw [if_pos (by simp; omega)]
  exact ⟨rfl, rfl⟩
theorem rSeal_long {w : World} {a : Option Addr} {n c : Nat} (hl : 16384 < n) :
    Calls Try.prog 38 #[.slice a n c] w (endW (fun v w' => v = .tuple #[.slice none 0 0, .int .i64 3] ∧ w' = w) (fun _ _ => False)) := by
  refine F38_calls a n c ?_
  delta F38
  rw [if_pos (by simp; omega)]
  exact ⟨rfl, rfl⟩

theorem tail4_get {m : BitVec 32} {i : Nat} (h : i < 4) : (tail4 m)[i]? = some (UInt8.ofBitVec ((m >>> (8 * i)).setWidth 8)) := by
  match i, h with
  | 0, _ => simp [tail4, le4]
  | 1, _ => rfl
  | 2, _ => rfl
  | 3, _ => rfl

theorem Seal_ok {w : World} {a : Option Addr} {n c : Nat} {bs : List UInt8} (hn : bs.length = n) (hr : Reads w a (vals bs)) (h0 : a = none → n = 0) (hl : n ≤ 16384) :
    Calls Try.prog 36 #[.slice a n c] w (endW (fun v w' => ∃ a' c', v = .tuple #[.slice a' (n + 4) c', .int .i64 0] ∧ Out w w' a' (n + 4) c' (sealed bs) ∧ Chg NoS w w') (fun _ _ => False)) := by
  refine F36_calls a n c ?_
  delta F36
  rw [if_neg (by simp; omega)]
  refine bytes_make (c := n + 4) bT (i64w _ (by omega) (by omega)) (by omega) (Nat.le_refl _) ?_
  intro w1 ho1 hc1 hs1
  refine ⟨_, _, _, rfl, ?_⟩
  refine bytes_append (c := c) bT Try.underlying31 ho1 hn (hr.chg hc1 (fun _ _ x => x)) h0 (by omega) hc1.size ?_
  intro a2 c2 w2 ho2 hc2 hb2
  simp only [Nat.zero_add, List.nil_append] at ho2 hb2 ⊢
  have hc02 : Chg NoS w w2 := hc1.trans2 hc2 (fun k hk e => by have : w.heap.size = k := by simpa [Value.ownBlock] using e
                                                               omega)
  refine ⟨_, _, _, rfl, ?_⟩
  refine Calls.then (Sum_ok hn (hr.chg hc02 (fun _ _ x => x)) (by omega)) ?_
  rintro v w3 ⟨rfl, hc3⟩
  refine ⟨_, rfl, ?_⟩
  generalize hm : crc (bv bs) = m
  refine ⟨fun s w4 => ∃ k : Nat, s.2.2.2 = ((8 * k : Nat) : Int) ∧ k ≤ 4 ∧ s.2.1 = n + k ∧ Out w w4 s.1 (n + k) s.2.2.1 (bs ++ (tail4 m).take k) ∧ Chg NoS w w4, fun s _ => (32 - s.2.2.2).toNat, ⟨(a2, n, c2, 0), ⟨rfl, rfl, trivial⟩, 0, rfl, by omega, rfl, by simpa [Out] using Out.chg (w := w) ho2 hc3 (fun _ _ x => x), hc02.trans hc3⟩, ?_⟩
  rintro ⟨a4, n4, c4, i⟩ w4 ⟨k, hi, hk4, hn4, ho4, hc4⟩ _
  dsimp only at hi hn4 ho4 ⊢
  subst hi
  subst hn4
  by_cases hk : k < 4
  · rw [if_pos (by simp; omega)]
    refine ⟨by rw [u64w _ (by omega) (by omega)]; omega, ?_⟩
    rw [u64w _ (by omega) (by omega), Int.toNat_natCast, Nat.min_eq_left (by omega), fdiv32, low8]
    have hb := blk_alloc w4 (.cells #[.int .u8 (((m >>> (8 * k)).setWidth 8).toNat : Int)] 5)
    have hc5 := chg_alloc w4 (.cells #[.int .u8 (((m >>> (8 * k)).setWidth 8).toNat : Int)] 5) NoS
    refine bytes_append (ns := [UInt8.ofBitVec ((m >>> (8 * k)).setWidth 8)]) bT Try.underlying31 (ho4.chg hc5 (fun _ _ x => x)) rfl (reads_lit hb) (fun e => by cases e) (by omega) (Nat.le_trans hc4.size hc5.size) ?_
    intro a6 c6 w6 ho6 hc6 hb6
    refine ⟨_, _, _, rfl, (a6, n + (k + 1), c6, ((8 * (k + 1) : Nat) : Int)), ⟨rfl, ?_, trivial⟩, ⟨k + 1, rfl, by omega, rfl, ?_, ?_⟩, by dsimp only; omega⟩
    · rw [i64w _ (by omega) (by omega)]
      congr 1
    · have e : (tail4 m).take (k + 1) = (tail4 m).take k ++ [UInt8.ofBitVec ((m >>> (8 * k)).setWidth 8)] := by
        rw [List.take_add_one, tail4_get hk]; rfl
      rw [e, ← List.append_assoc]
      exact ho6
    · exact (hc4.trans hc5).trans2 hc6 (fun q hq e => by have := (own_lt' ho4 (k := q) e).2; omega)
  · rw [if_neg (by simp; omega)]
    have : k = 4 := by omega
    subst this
    refine ⟨a4, c4, rfl, ?_, hc4⟩
    have e : (tail4 m).take 4 = tail4 m := rfl
    rw [e, ← hm] at ho4
    exact ho4

theorem rSeal_ok {w : World} {a : Option Addr} {n c : Nat} {bs : List UInt8} (hn : bs.length = n) (hr : Reads w a (vals bs)) (h0 : a = none → n = 0) (hl : n ≤ 16384) :
    Calls Try.prog 38 #[.slice a n c] w (endW (fun v w' => ∃ a' c', v = .tuple #[.slice a' (n + 4) c', .int .i64 0] ∧ Out w w' a' (n + 4) c' (sealed bs) ∧ Chg NoS w w') (fun _ _ => False)) := by
  refine F38_calls a n c ?_
  delta F38
  rw [if_neg (by simp; omega)]
  refine Calls.then (rSum_ok hn hr (by omega)) ?_
  rintro v w1 ⟨rfl, rfl⟩
  refine ⟨_, rfl, ?_⟩
  refine bytes_fresh (c := c) bT Try.underlying31 hn hr h0 (by omega) (Nat.le_refl _) ?_
  intro a2 c2 w2 ho2 hc2 hb2
  refine ⟨_, _, _, rfl, by omega, by omega, by omega, ?_⟩
  generalize hm : crc (bv bs) = m
  rw [fdiv32, fdiv32, fdiv32, low8, low8, low8, low8]
  have hb := blk_alloc w2 (.cells #[.int .u8 ((m.setWidth 8).toNat : Int), .int .u8 (((m >>> 8).setWidth 8).toNat : Int), .int .u8 (((m >>> 16).setWidth 8).toNat : Int), .int .u8 (((m >>> 24).setWidth 8).toNat : Int)] 5)
  have hc5 := chg_alloc w2 (.cells #[.int .u8 ((m.setWidth 8).toNat : Int), .int .u8 (((m >>> 8).setWidth 8).toNat : Int), .int .u8 (((m >>> 16).setWidth 8).toNat : Int), .int .u8 (((m >>> 24).setWidth 8).toNat : Int)] 5) NoS
  refine bytes_append (ns := tail4 m) bT Try.underlying31 (own_of_chg ho2 hc5 (fun _ _ x => x)) rfl (reads_lit hb) (fun e => by cases e) (by omega) (Nat.le_trans hc2.size hc5.size) ?_
  intro a6 c6 w6 ho6 hc6 hb6
  refine ⟨_, _, _, rfl, a6, c6, rfl, ?_, (hc2.trans hc5).trans2 hc6 (fun q hq e => by have := hb2 q e; omega)⟩
  unfold sealed
  rw [hm]
  exact ho6
end Go.Proofs.Ytooebmpjmcmkoaa.S
