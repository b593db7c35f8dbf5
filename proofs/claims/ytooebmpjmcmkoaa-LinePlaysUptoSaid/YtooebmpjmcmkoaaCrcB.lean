/-
  crc: the walks of the table and of Sum.
-/
import Derived.Test.YtooebmpjmcmkoaaBA
import Derived.Test.YtooebmpjmcmkoaaOnceB
import Derived.Test.YtooebmpjmcmkoaaCrcA
import Derived.Test.YtooebmpjmcmkoaaEngQ
import Derived.IntWalk
set_option linter.unusedVariables false
set_option linter.unusedSimpArgs false
namespace Go.Proofs.Ytooebmpjmcmkoaa.S
open Go Go.Proofs Go.Proofs.Ytooebmpjmcmkoaa.B Go.Proofs.YtooebmpjmcmkoaaEng Go.Proofs.YtooebmpjmcmkoaaCrc

/-! ### numbers -/
theorem and1 (m : BitVec 32) : m &&& 1#32 = if m.getLsbD 0 then 1#32 else 0#32 := by
  apply BitVec.eq_of_getLsbD_eq
  intro i hi
  have h1 : ∀ i, i < 32 → (1#32).getLsbD i = decide (i = 0) := by decide
  rw [BitVec.getLsbD_and, h1 i hi]
  by_cases h0 : i = 0
  · subst h0; cases m.getLsbD 0 <;> simp
  · cases m.getLsbD 0 <;> simp [h0, h1 i hi]
theorem st_prog (m : BitVec 32) : IntKind.wrap .u32 (BitVec.toNat (BitVec.ofInt 32 (Int.fdiv (m.toNat : Int) ((2 : Int) ^ 1)) ^^^ BitVec.ofInt 32 (IntKind.wrap .u32 ((3988292384 : Int) * IntKind.wrap .u32 ((BitVec.toNat (BitVec.ofInt 32 (m.toNat : Int) &&& BitVec.ofInt 32 (1 : Int)) : Nat) : Int)))) : Int) = ((st m).toNat : Int) := by
  rw [fdiv32, ofInt_nat, ofInt_nat, show BitVec.ofInt 32 (1 : Int) = 1#32 from rfl, and1, wrap32, wrap32]
  unfold st
  cases m.getLsbD 0
  · rfl
  · rfl
theorem st_ref1 (m : BitVec 32) (h : m.getLsbD 0 = true) : IntKind.wrap .u32 (BitVec.toNat (BitVec.ofInt 32 (Int.fdiv (m.toNat : Int) ((2 : Int) ^ 1)) ^^^ BitVec.ofInt 32 (3988292384 : Int)) : Int) = ((st m).toNat : Int) := by
  rw [fdiv32, ofInt_nat, wrap32]
  unfold st
  rw [h]
  rfl
theorem st_ref0 (m : BitVec 32) (h : m.getLsbD 0 = false) : Int.fdiv (m.toNat : Int) ((2 : Int) ^ 1) = ((st m).toNat : Int) := by
  rw [fdiv32, st_even h]
theorem odd_iff (m : BitVec 32) : ((IntKind.wrap .u32 ((BitVec.toNat (BitVec.ofInt 32 (m.toNat : Int) &&& BitVec.ofInt 32 (1 : Int)) : Nat) : Int) == (1 : Int)) = true) ↔ m.getLsbD 0 = true := by
  rw [ofInt_nat, show BitVec.ofInt 32 (1 : Int) = 1#32 from rfl, and1, wrap32]
  cases m.getLsbD 0 <;> decide

/-! ### the table -/
theorem Fill_ok {w : World} {b p : Nat} {cs : Array Value} (hc : w.heap[p]? = some (.cells #[.pointer (some ⟨b, 0, none⟩)] 76 (0, 0))) (hb : w.heap[b]? = some (.cells cs 89 (0, 0))) (hs : cs.size = 259) (hne : p ≠ b) :
    Calls Try.prog 49 #[.pointer (some ⟨p, 0, none⟩)] w (endW (fun v w' => v = .tuple #[] ∧ ∃ cs', w'.heap[b]? = some (.cells cs' 89 (0, 0)) ∧ cs'.size = 259 ∧ (∀ i, i < 3 → cs'[i]? = cs[i]?) ∧ (∀ j, j < 256 → cs'[3 + j]? = some (n32 (tab j))) ∧ Chg (OnlyB b) w w' ∧ w'.heap.size = w.heap.size) (fun _ _ => False)) := by
  refine F49_calls (some ⟨p, 0, none⟩) ?_
  delta F49
  refine ⟨fun s w' => 0 ≤ s ∧ s ≤ 256 ∧ ∃ cs', w'.heap[b]? = some (.cells cs' 89 (0, 0)) ∧ cs'.size = 259 ∧ (∀ i, i < 3 → cs'[i]? = cs[i]?) ∧ (∀ j : Nat, (j : Int) < s → cs'[3 + j]? = some (n32 (tab j))) ∧ Chg (OnlyB b) w w' ∧ w'.heap.size = w.heap.size, fun s _ => (256 - s).toNat, ⟨0, ⟨rfl, trivial⟩, by omega, by omega, cs, hb, hs, fun _ _ => rfl, fun j hj => by omega, Chg.refl _ _, rfl⟩, ?_⟩
  rintro s w1 ⟨hs0, hs1, cs1, hb1, hz1, hk1, ht1, hc1, hsz1⟩ _
  by_cases h : s < 256
  · rw [if_pos (by simpa using h)]
    obtain ⟨j, rfl⟩ := Int.eq_ofNat_of_zero_le hs0
    refine ⟨fun t w2 => w2 = w1 ∧ 0 ≤ t.2 ∧ t.2 ≤ 8 ∧ t.1 = ((sts t.2.toNat (BitVec.ofNat 32 j)).toNat : Int), fun t _ => (8 - t.2).toNat, ⟨(((BitVec.ofNat 32 j).toNat : Int), 0), ⟨?_, rfl, trivial⟩, rfl, by simp, by simp, rfl⟩, ?_⟩
    · congr 1
    rintro ⟨n, i⟩ w2 ⟨rfl, h0, h8, hn⟩ _
    simp only at h0 h8 hn ⊢
    subst hn
    by_cases hi : i < 8
    · rw [if_pos (by simpa using hi)]
      obtain ⟨k, rfl⟩ := Int.eq_ofNat_of_zero_le h0
      refine ⟨by omega, (((sts (k + 1) (BitVec.ofNat 32 j)).toNat : Int), (k : Int) + 1), ⟨?_, ?_, trivial⟩, ⟨by trivial, by omega, by omega, rfl⟩, by omega⟩
      · rw [st_prog, Int.toNat_natCast, ← sts_succ]
      · rw [i64w _ (by omega) (by omega)]
    · rw [if_neg (by simpa using hi)]
      have : i = 8 := by omega
      subst this
      refine ⟨.some ⟨b, 0, none⟩, ?_, ?_⟩
      · rw [cell_blk (hc1.blk hc (fun e => hne e))]
        rfl
      refine ⟨by omega, by omega, ?_⟩
      simp only [addK_lit, Nat.zero_add, Nat.mul_one, Int.toNat_natCast]
      refine setW_blk hb1 (by omega) rfl ?_
      intro w3 hb3 hc3 hs3
      refine ⟨(j : Int) + 1, ⟨by rw [i64w _ (by omega) (by omega)], trivial⟩, ⟨by omega, by omega, _, hb3, by simpa using hz1, fun i hi => ?_, fun q hq => ?_, hc1.trans hc3, by omega⟩, by omega⟩
      · rw [Array.getElem?_setIfInBounds_ne (by omega)]
        exact hk1 i hi
      · by_cases e : q = j
        · subst e
          rw [Array.getElem?_setIfInBounds_self_of_lt (by omega)]
          rfl
        · rw [Array.getElem?_setIfInBounds_ne (by omega)]
          exact ht1 q (by omega)
  · rw [if_neg (by simpa using h)]
    exact ⟨rfl, cs1, hb1, hz1, hk1, fun j hj => ht1 j (by omega), hc1, hsz1⟩

/-- The table at block b, made or not. -/
def Tab (w : World) (b : Nat) : Prop := ∃ cs, w.heap[b]? = some (.cells cs 89 (0, 0)) ∧ cs.size = 259 ∧ cs[1]? = some (.int .i32 0) ∧ (cs[0]? = some (.int .u32 0) ∨ (cs[0]? = some (.int .u32 1) ∧ ∀ j, j < 256 → cs[3 + j]? = some (n32 (tab j))))
theorem Tab.chg {S : Nat → Prop} {w w' : World} {b : Nat} (h : Tab w b) (hc : Chg S w w') (hs : ¬ S b) : Tab w' b := by
  obtain ⟨cs, h1, h2⟩ := h
  exact ⟨cs, hc.blk h1 hs, h2⟩
theorem Of_ok {w : World} {b x : Nat} (h : Tab w b) (hx : x < 256) :
    Calls Try.prog 47 #[.pointer (some ⟨b, 0, none⟩), .int .u8 x] w (endW (fun v w' => v = n32 (tab x) ∧ Tab w' b ∧ Chg (OnlyB b) w w') (fun _ _ => False)) := by
  refine F47_calls (some ⟨b, 0, none⟩) x ?_
  delta F47
  obtain ⟨cs, hb, hs, hm, hd⟩ := h
  have hlt := lt_of_blk hb
  have hc0 := chg_alloc w (.cells #[.pointer (some ⟨b, 0, none⟩)] 76) NoS
  have hp := blk_alloc w (.cells #[.pointer (some ⟨b, 0, none⟩)] 76)
  have hb1 := hc0.blk hb (fun x => x)
  generalize w.alloc (.cells #[.pointer (some ⟨b, 0, none⟩)] 76) = w1 at *
  have fin : ∀ w2 cs2, w2.heap[b]? = some (.cells cs2 89 (0, 0)) → w2.heap[w.heap.size]? = some (.cells #[.pointer (some ⟨b, 0, none⟩)] 76 (0, 0)) → cs2.size = 259 → cs2[1]? = some (.int .i32 0) → cs2[0]? = some (.int .u32 1) → (∀ j, j < 256 → cs2[3 + j]? = some (n32 (tab j))) → Chg (OnlyB b) w1 w2 →
      ∃ (p : Option Addr), World.cell? w2 ⟨w.heap.size, 0, none⟩ = some (.pointer p) ∧ wSome p fun A => (0 : Int) ≤ (x : Int) ∧ (x : Int) < ((256 : Nat) : Int) ∧ ∃ y, World.cell? w2 (addK (addK A 3) (Int.toNat (x : Int) * 1)) = some (.int .u32 y) ∧ (Value.int .u32 y = n32 (tab x) ∧ Tab w2 b ∧ Chg (OnlyB b) w w2) := by
    intro w2 cs2 hb2 hp2 hs2 hm2 hd2 ht2 hc2
    refine ⟨some ⟨b, 0, none⟩, by rw [cell_blk hp2]; rfl, by omega, by omega, _, ?_, rfl, ⟨cs2, hb2, hs2, hm2, .inr ⟨hd2, ht2⟩⟩, (hc0.mono fun _ _ h => h.elim).trans hc2⟩
    simp only [addK_lit, Nat.zero_add, Nat.mul_one, Int.toNat_natCast]
    rw [cell_blk hb2, ht2 x hx]
    rfl
  refine ⟨some ⟨b, 0, none⟩, by rw [cell_blk hp]; rfl, ?_⟩
  show Calls _ _ _ _ _
  rw [addK_zero]
  rcases hd with hd | ⟨hd, ht⟩
  · have hb2 := blk_setCell hb1 1 (.int .i32 1)
    have hsz : (cs.setIfInBounds 1 (.int .i32 1)).size = 259 := by simpa using hs
    refine (do_first b 0 ⟨w.heap.size, 0, none⟩ (fun w2 => ∃ cs2, w2.heap[b]? = some (.cells cs2 89 (0, 0)) ∧ w2.heap[w.heap.size]? = some (.cells #[.pointer (some ⟨b, 0, none⟩)] 76 (0, 0)) ∧ cs2.size = 259 ∧ cs2[1]? = some (.int .i32 1) ∧ cs2[0]? = some (.int .u32 0) ∧ (∀ j, j < 256 → cs2[3 + j]? = some (n32 (tab j))) ∧ Chg (OnlyB b) w1 w2) w1 (by rw [cell_blk hb1]; exact hd) (by rw [cell_blk hb1]; exact hm) (frozen_blk hb1 _ _) (frozen_blk hb1 _ _) ?_).mono ?_
    · have hcs := chg_setCell w1 b 1 (.int .i32 1)
      refine (Fill_ok (cs := cs.setIfInBounds 1 (.int .i32 1)) (hcs.blk hp (fun e => by have : w.heap.size = b := e; omega)) hb2 hsz (by omega)).mono ?_
      rintro e w2 he
      cases e with
      | panicked c => exact he.elim
      | outgrown => exact he.elim
      | returned v =>
        obtain ⟨rfl, cs2, h1, h2, h3, h4, h5, h6⟩ := he
        have e0 : cs2[0]? = some (.int .u32 0) := by rw [h3 0 (by omega), Array.getElem?_setIfInBounds_ne (by omega)]; exact hd
        have e1 : cs2[1]? = some (.int .i32 1) := by rw [h3 1 (by omega), Array.getElem?_setIfInBounds_self_of_lt (by omega)]
        exact ⟨rfl, ⟨cs2, h1, h5.blk (hcs.blk hp (fun e => by have : w.heap.size = b := e; omega)) (fun e => by have : w.heap.size = b := e; omega), h2, e1, e0, h4, hcs.trans h5⟩, by rw [cell_blk h1]; exact e0, by rw [cell_blk h1]; exact e1, frozen_blk h1 _ _, frozen_blk h1 _ _⟩
    · rintro e w' ⟨rfl, w2, ⟨cs2, h1, h2, h3, h4, h5, h6, h7⟩, rfl⟩
      have g1 : w2.drew.heap[b]? = some (.cells cs2 89 (0, 0)) := h1
      have g2 := blk_setCell g1 0 (.int .u32 1)
      have g3 := blk_setCell g2 1 (.int .i32 0)
      have k1 := chg_setCell w2.drew b 0 (.int .u32 1)
      have k2 := chg_setCell (w2.drew.setCell ⟨b, 0, none⟩ (.int .u32 1)) b 1 (.int .i32 0)
      have k3 : Chg (OnlyB b) w2 ((w2.drew.setCell ⟨b, 0, none⟩ (.int .u32 1)).setCell ⟨b, 1, none⟩ (.int .i32 0)) := ((chg_drew w2 _).trans k1).trans k2
      refine fin _ _ g3 (k3.blk h2 (fun e => by have : w.heap.size = b := e; omega)) (by simpa using h3) ?_ ?_ (fun j hj => ?_) (h7.trans k3)
      · rw [Array.getElem?_setIfInBounds_self_of_lt (by simp; omega)]
      · rw [Array.getElem?_setIfInBounds_ne (by omega), Array.getElem?_setIfInBounds_self_of_lt (by omega)]
      · rw [Array.getElem?_setIfInBounds_ne (by omega), Array.getElem?_setIfInBounds_ne (by omega)]
        exact h6 j hj
  · refine (do_done ⟨b, 0, none⟩ 1 (by omega) _ w1 (by rw [cell_blk hb1]; exact hd)).mono ?_
    rintro e w' ⟨rfl, rfl⟩
    exact fin _ cs hb1 hp hs hm hd ht (Chg.refl _ _)
end Go.Proofs.Ytooebmpjmcmkoaa.S
