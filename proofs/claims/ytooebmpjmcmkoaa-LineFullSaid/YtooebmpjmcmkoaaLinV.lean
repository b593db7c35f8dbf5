/-
  LineFull: the walk.
-/
import Derived.Test.YtooebmpjmcmkoaaLinU
import Derived.Test.YtooebmpjmcmkoaaBD
set_option maxRecDepth 100000
set_option linter.unusedVariables false
set_option linter.unusedSimpArgs false
namespace Go.Proofs.Ytooebmpjmcmkoaa.B
open Go Go.Proofs Go.Proofs.YtooebmpjmcmkoaaEng

def fS (i : Nat) : Lm := ⟨0, frows i, 0, 0, []⟩
theorem fA0 : fA 0 = fS 4096 := by simp [fA, fS]
theorem fsend {i : Nat} (h : i < 4096) : (fS i).send (frow i) = (0, fS (i + 1)) := by
  unfold Lm.send
  have h1 : (frow i).length = 2 := rfl
  have h2 : (fS i).sent.length = i := frows_len i
  rw [if_neg (by omega), if_neg (by omega)]
  show (0, (⟨0, frows i ++ [frow i], 0, 0, []⟩ : Lm)) = _
  rw [← frows_succ]
  rfl
theorem fsend_full : (fS 4096).send [] = (4, fS 4096) := by
  unfold Lm.send
  have h2 : (fS 4096).sent.length = 4096 := frows_len 4096
  rw [if_neg (by simp), if_pos (by omega)]
theorem fsend_long : (fS 4096).send (List.replicate 8193 0) = (3, fS 4096) := by
  unfold Lm.send
  rw [if_pos (by rw [List.length_replicate]; omega)]
theorem frow_lit (w : World) (n : Nat) : (w.alloc (.cells #[.int .u8 (IntKind.wrap .u8 (n : Int)), .int .u8 (IntKind.wrap .u8 (Int.fdiv (n : Int) (2 ^ 8)))] 5)) = w.alloc (.cells (vals (frow n)).toArray 5) := by
  congr 2
  simp only [f8, w8]; rfl

theorem LineFull_walk (w : World) : Calls Try.prog 5 #[] w (endW (fun v w' => v = .bool true ∧ Chg NoS w w') (fun _ _ => False)) := by
  refine F5_calls ?_
  delta F5
  refine Calls.then (New_ok (ep := 0)) ?_
  rintro v w1 ⟨rfl, rfl⟩
  refine ⟨_, rfl, ?_⟩
  refine Calls.then (New_ok (ep := 0)) ?_
  rintro v w1 ⟨rfl, rfl⟩
  refine ⟨_, rfl, ?_⟩
  obtain ⟨X, h0⟩ := two_new (w := w) (e1 := 0) (e2 := 0)
  generalize (w.alloc (.cells (ecells (Lm.new 0) (.slice none 0 0) (.slice none 0 0)) 54)).alloc (.cells (ecells (Lm.new 0) (.slice none 0 0) (.slice none 0 0)) 54) = w1 at h0 ⊢
  generalize (w.alloc (.cells (ecells (Lm.new 0) (.slice none 0 0) (.slice none 0 0)) 54)).heap.size = q at h0 ⊢
  generalize hpp : w.heap.size = p at h0 ⊢
  refine ⟨fun s w' => ∃ (i : Nat) (X : Nat → Prop) (ms : Ents), s = (i : Int) ∧ i ≤ 4096 ∧ Ent w w' X ms ∧ ms 0 = some (54, p, fS i) ∧ ms 1 = some (54, q, fB 0), fun s _ => (4096 - s).toNat, ⟨0, ⟨rfl, trivial⟩, 0, X, _, rfl, by omega, h0, rfl, rfl⟩, ?_⟩
  rintro s w2 ⟨i, X2, ms2, rfl, hi, h2, ha2, hb2⟩ _
  by_cases hlt : i < 4096
  · rw [if_pos (by simp; omega)]
    refine ⟨by omega, ?_⟩
    rw [frow_lit]
    obtain ⟨h3, _⟩ := h2.quiet (chg_alloc w2 (.cells (vals (frow i)).toArray 5) NoS)
    refine Calls.then (h3.send ha2 (bs := frow i) (by rw [show (fS i).sent.length = i from frows_len i]; omega) rfl (reads_lit (blk_alloc w2 _)) (fun e => by cases e)) ?_
    rintro v w4 ⟨rfl, X4, h4, _, _, _⟩
    rw [fsend hlt] at h4 ⊢
    refine ⟨_, rfl, ?_⟩
    rw [if_neg (by simp)]
    exact ⟨((i + 1 : Nat) : Int), ⟨by rw [i64w _ (by omega) (by omega)]; rfl, trivial⟩, ⟨i + 1, X4, _, rfl, by omega, h4, upd_same, by rw [upd_other (by decide)]; exact hb2⟩, by dsimp only; omega⟩
  rw [if_neg (by simp; omega)]
  have : i = 4096 := by omega
  subst this
  refine ⟨fun _ w' => ∃ X ms, Ent w w' X ms ∧ ms 0 = some (54, p, fA 0) ∧ ms 1 = some (54, q, fB 0), ?_, ?_⟩
  · rintro s w3 ⟨X3, ms3, h3, ha3, hb3⟩ _
    refine ⟨fun s w' => ∃ (k : Nat) (X : Nat → Prop) (ms : Ents), s = (((32 * k : Nat) : Int), (k : Int)) ∧ k ≤ 128 ∧ Ent w w' X ms ∧ ms 0 = some (54, p, fA k) ∧ ms 1 = some (54, q, fB k), fun s _ => (300 - s.2).toNat, ⟨(0, 0), ⟨rfl, rfl, trivial⟩, 0, X3, ms3, rfl, by omega, h3, ha3, hb3⟩, ?_⟩
    rintro s w4 ⟨k, X4, ms4, rfl, hk, h4, ha4, hb4⟩ _
    dsimp only
    refine ⟨fun _ w' => k < 128 ∧ ∃ X ms, Ent w w' X ms ∧ ms 0 = some (54, p, fA k) ∧ ms 1 = some (54, q, fB k), ?_, ?_⟩
    · rintro s w5 ⟨hk5, X5, ms5, h5, ha5, hb5⟩ _
      refine Calls.then (h5.tick ha5 (fA_wf hk).sent (fA_wf hk).rows) ?_
      rintro v w6 ⟨hc6, b, r, rfl, hbs, hbl, hrow⟩
      obtain ⟨h6, _⟩ := h5.quiet hc6
      refine ⟨_, _, _, rfl, ?_⟩
      rw [if_neg (by simp)]
      have hx : ¬ X5 b := fun hx => by have := (h5.lt _ hx).2; omega
      have hl20 : (S.sealed (fA k).payload).length ≤ 20000 := by rw [S.sealed_length]; have := (payload_len (fA k)).2; omega
      refine ⟨fun s w' => ∃ (j : Nat) (X : Nat → Prop) (ms : Ents), s = (j : Int) ∧ j ≤ 1 ∧ Ent w w' X ms ∧ ms 0 = some (54, p, fA k) ∧ ms 1 = some (54, q, if j = 0 then fB k else fC k) ∧ Lists w' X b b r r (S.sealed (fA k).payload) (S.sealed (fA k).payload),
        fun s _ => (1 - s).toNat, ⟨0, ⟨rfl, trivial⟩, 0, X5, ms5, rfl, by omega, h6, ha5, by simpa using hb5, hbl, hbl, hrow, hrow, hx, hx⟩, ?_⟩
      rintro s w7 ⟨j, X7, ms7, rfl, hj, h7, ha7, hb7, hL7⟩ _
      by_cases hj0 : j = 0
      · subst hj0
        rw [if_pos (by simp)]
        rw [if_pos rfl] at hb7
        obtain ⟨ra, rc, rfl, hrl, _, hrr, _⟩ := id hL7.o1
        refine ⟨by omega, by omega, wSome_of rfl ⟨_, _, _, by simp only [Int.toNat_natCast, Nat.zero_mul, addK_lit]; rw [cell_blk hL7.c1]; rfl, ?_⟩⟩
        refine Calls.then (h7.take hb7 ⟨by show 0 < _; omega, by show 0 < _; omega, by show 32 * k < _; omega, by show 0 ≤ _; omega, by show 0 ≤ _; omega⟩ rfl hrl hrr (by omega)) ?_
        rintro v w8 ⟨rfl, X8, h8, hk8, hc8, hg8⟩
        rw [fTake1 hk5] at h8 ⊢
        refine ⟨_, rfl, ?_⟩
        rw [if_neg (by simp)]
        exact ⟨1, ⟨by rw [i64w _ (by omega) (by omega)]; rfl, trivial⟩, ⟨1, X8, _, rfl, by omega, h8, by rw [upd_other (by decide)]; exact ha7, upd_same, hL7.did (w0 := w) hk8 hc8 hg8⟩, by dsimp only; omega⟩
      have : j = 1 := by omega
      subst this
      rw [if_neg (by simp)]
      rw [if_neg (by omega)] at hb7
      refine Calls.then (h7.came hb7) ?_
      rintro v w8 ⟨X8, h8, hk8, hc8, hg8, a8, c8, us8, rfl, ho8, hr8, hx8⟩
      have hfl : (fC k).fresh.length = 32 := by show (((frows 4096).drop (32 * k)).take 32).length = 32; rw [List.length_take, List.length_drop, frows_len]; omega
      refine ⟨_, _, _, rfl, ?_⟩
      refine ⟨fun s w' => ∃ j : Nat, s = (((32 * k + j : Nat) : Int), (j : Int)) ∧ j ≤ 32 ∧ Chg NoS w8 w', fun s _ => (32 - s.2).toNat, ⟨(((32 * k : Nat) : Int), 0), ⟨rfl, rfl, trivial⟩, 0, rfl, by omega, Chg.refl _ _⟩, ?_⟩
      rintro s w9 ⟨j, rfl, hj9, hc9⟩ _
      dsimp only
      obtain ⟨h9, _⟩ := h8.quiet hc9
      by_cases hlt9 : j < 32
      · rw [if_pos (by rw [hfl]; simp; omega)]
        have hgr : (fC k).fresh[j]? = some (frow (32 * k + j)) := by
          show (((frows 4096).drop (32 * k)).take 32)[j]? = _
          rw [List.getElem?_take, if_pos hlt9, List.getElem?_drop, frows_get (by omega)]
        obtain ⟨rv, hrv, hrow9⟩ := hr8.get hgr
        obtain ⟨A, rfl, hcell⟩ := ho8.reads j _ hrv
        obtain ⟨ra, rc, rfl, _⟩ := id hrow9
        have hca := hc9.trans (chg_alloc w9 (.cells (vals (frow (32 * k + j))).toArray 5) NoS)
        refine ⟨by omega, by rw [hfl]; omega, wSome_of rfl ⟨_, _, _, by rw [Int.toNat_natCast, Nat.mul_one]; exact hc9.sameOld.cell hcell, by omega, ?_⟩⟩
        rw [frow_lit]
        refine Calls.then (Same_ok (xs := frow (32 * k + j)) (ys := frow (32 * k + j)) rfl (RowIn.rd (hrow9.chg hca fun k _ h => h.elim)).1 rfl (reads_lit (blk_alloc w9 _)) (by show 2 ≤ _; omega) (by omega)) ?_
        rintro v w10 ⟨rfl, hc10⟩
        refine ⟨_, rfl, ?_⟩
        rw [if_neg (by simp)]
        refine ⟨(((32 * k + (j + 1) : Nat) : Int), ((j + 1 : Nat) : Int)), ⟨?_, ?_, trivial⟩, ⟨j + 1, rfl, by omega, hca.trans hc10⟩, by dsimp only; omega⟩
        · rw [i64w _ (by omega) (by omega)]; rfl
        · rw [i64w _ (by omega) (by omega)]; rfl
      rw [if_neg (by rw [hfl]; simp; omega)]
      have : j = 32 := by omega
      subst this
      have e : ({ fC k with fresh := [] } : Lm) = fB (k + 1) := rfl
      rw [e] at h9
      refine Calls.then (h9.tick upd_same (fB_wf (k := k + 1) (by omega)).sent (fB_wf (k := k + 1) (by omega)).rows) ?_
      rintro v w10 ⟨hc10, b2, r2, rfl, hbs2, hbl2, hrow2⟩
      obtain ⟨h10, _⟩ := h9.quiet hc10
      refine ⟨_, _, _, rfl, ?_⟩
      rw [if_pos (by simp)]
      have hl21 : (S.sealed (fB (k + 1)).payload).length ≤ 20000 := by rw [S.sealed_length]; have := (payload_len (fB (k + 1))).2; omega
      obtain ⟨ra, rc, rfl, hrl, _, hrr, _⟩ := id hrow2
      refine ⟨by omega, by omega, wSome_of rfl ⟨_, _, _, by rw [addK_lit, cell_blk hbl2]; rfl, ?_⟩⟩
      refine Calls.then (h10.take (i := 0) (by rw [upd_other (by decide)]; exact ha7) ⟨by show 0 < _; omega, by show 32 * k < _; omega, by show 0 < _; omega, (fA_wf hk).sent, by show 0 ≤ _; omega⟩ rfl hrl hrr (by omega)) ?_
      rintro v w11 ⟨rfl, X11, h11, _, _, _⟩
      rw [fTake2 hk5] at h11 ⊢
      refine ⟨_, rfl, ?_⟩
      rw [if_neg (by simp)]
      exact ⟨(((32 * (k + 1) : Nat) : Int), ((k + 1 : Nat) : Int)), ⟨rfl, by rw [i64w _ (by omega) (by omega)]; rfl, trivial⟩, ⟨k + 1, X11, _, rfl, by omega, h11, upd_same, by rw [upd_other (by decide), upd_same]⟩, by dsimp only; omega⟩
    · rw [if_pos (by simp; omega)]
      refine Calls.then (h4.left ha4) ?_
      rintro v w5 ⟨rfl, rfl⟩
      refine ⟨_, rfl, ?_⟩
      rw [fA_len]
      by_cases hk8 : k < 128
      · rw [if_pos (by simp; omega)]
        exact ⟨(), trivial, hk8, X4, ms4, h4, ha4, hb4⟩
      · rw [if_neg (by simp; omega)]
        have : k = 128 := by omega
        subst this
        refine Calls.then (h4.left ha4) ?_
        rintro v w6 ⟨rfl, rfl⟩
        refine ⟨_, rfl, ?_⟩
        rw [fA_len, if_pos (by simp), if_pos (by simp)]
        refine Calls.then (wakes_ok _) ?_
        rintro v w7 ⟨rfl, hc7⟩
        exact ⟨_, rfl, rfl, h4.ch.trans hc7⟩
  · have hse : (fS 4096).sent.length ≤ 4096 := by rw [show (fS 4096).sent.length = 4096 from frows_len 4096]; omega
    refine Calls.then (h2.send ha2 (bs := []) (a := none) (n := 0) (c := 0) hse rfl (fun j u hu => by simp [vals] at hu) (fun _ => rfl)) ?_
    rintro v w3 ⟨rfl, X3, h3, _, _, _⟩
    rw [fsend_full] at h3 ⊢
    refine ⟨_, rfl, ?_⟩
    rw [if_pos (by simp)]
    refine Calls.then (h3.left upd_same) ?_
    rintro v w4 ⟨rfl, rfl⟩
    refine ⟨_, rfl, ?_⟩
    rw [show (fS 4096).sent.length = 4096 from frows_len 4096, if_pos (by simp)]
    refine bytes_zero (base := w4.heap.size) (n := 8193) S.bT rfl rfl (by omega) (Nat.le_refl _) ?_
    intro w5 ho5 hc5 hz5
    obtain ⟨h5, _⟩ := h3.quiet hc5
    refine ⟨_, _, _, rfl, ?_⟩
    refine Calls.then (h5.send upd_same (bs := List.replicate 8193 0) hse List.length_replicate (own_reads_v ho5).1 (fun e => by cases e)) ?_
    rintro v w6 ⟨rfl, X6, h6, _, _, _⟩
    rw [fsend_long] at h6 ⊢
    refine ⟨_, rfl, ?_⟩
    rw [if_neg (by simp)]
    exact ⟨(), trivial, X6, _, h6, by rw [upd_same, fA0], by rw [upd_other (by decide), upd_other (by decide)]; exact hb2⟩
end Go.Proofs.Ytooebmpjmcmkoaa.B
