/-
  Policies: counted, copied, with a part replaced.
-/
import Derived.Test.YtbpckcmejkcciaaPolYc
import Derived.Test.YtbpckcmejkcciaaPolX
import Derived.Test.YtbpckcmejkcciaaBS
set_option maxRecDepth 100000
set_option linter.unusedVariables false
set_option linter.unusedSimpArgs false
namespace Go.Proofs.Ytbpckcmejkcciaa.B
open Go Go.Proofs Go.Proofs.YtbpckcmejkcciaaEng

theorem LSize_ok : ∀ (t : Tm) (v : V4) (w : World) (n : Nat), v.is w t → n ≤ 8192 → Calls Try.prog 20 #[.agg v.arr, .int .i64 n] w (endW (fun r w' => r = .int .i64 (min (n + tsize t) 8193 : Nat) ∧ Chg NoS w w') (fun _ _ => False)) := by
  intro t
  generalize hs : tsize t = sz
  induction sz using Nat.strongRecOn generalizing t with
  | _ sz ih =>
    subst hs
    intro v w n hv hn
    obtain ⟨ks, rfl, hlen, hmc, hcm, hrng, hget⟩ := TVal.parts hv
    refine F20_calls v.op v.f v.n v.b v.m v.c n ?_
    delta F20
    have hP0 := mine_alloc (Chg.refl NoS w) v.arr 26
    generalize w.alloc (.cells v.arr 26) = w1 at *
    refine ⟨fun s w2 => ∃ j : Nat, s.2 = j ∧ j ≤ v.m ∧ s.1 = (min (n + 1 + lsize (ks.take j)) 8193 : Nat) ∧ Chg NoS w1 w2, fun s _ => (v.m - s.2).toNat,
      ⟨((n : Int) + 1, 0), ⟨by rw [i64w _ (by omega) (by omega)], rfl, trivial⟩, 0, rfl, by omega, by simp only [List.take_zero, lsize]; omega, Chg.refl _ _⟩, ?_⟩
    rintro ⟨x, i⟩ w2 ⟨j, hi, hj, hx, hc2⟩ _
    dsimp only at hi hx ⊢
    subst hi
    subst hx
    have hP2 := hP0.keep hc2
    refine ⟨_, _, _, (mine_cell hP2 3).trans rfl, ?_⟩
    have hle := lsize_take_le ks j
    simp only [tsize]
    by_cases hlt : (j : Int) < v.m
    · rw [if_pos (by simpa using hlt)]
      by_cases h8 : ((min (n + 1 + lsize (ks.take j)) 8193 : Nat) : Int) ≤ 8192
      · rw [if_pos (by simpa using h8)]
        have hjk : j < ks.length := by omega
        obtain ⟨A, hA, hT⟩ := get_ofTake hget hjk
        obtain ⟨o', f', n', b', m', c', q0, q1, q2, q3, hq⟩ := hT.keep hP2.2.1
        refine ⟨_, _, _, (mine_cell hP2 3).trans rfl, by omega, by omega, wSome_of hA ⟨_, q0, _, q1, _, q2, _, _, _, q3, ?_⟩⟩
        refine Calls.then (ih _ (tsize_kid (List.getElem_mem hjk)) ks[j] rfl ⟨o', f', n', b', m', c'⟩ w2 (min (n + 1 + lsize (ks.take j)) 8193) hq (by omega)) ?_
        rintro r w3 ⟨rfl, hc3⟩
        have ht := lsize_take hjk
        refine ⟨_, rfl, (((min (n + 1 + lsize (ks.take (j + 1))) 8193 : Nat) : Int), (j : Int) + 1), ⟨?_, by rw [i64w _ (by omega) (by omega)], trivial⟩, ⟨j + 1, rfl, by omega, rfl, hc2.trans hc3⟩, by dsimp only; omega⟩
        congr 2
        omega
      · rw [if_neg (by simpa using h8)]
        refine ⟨?_, hP2.2.1⟩
        congr 2
        omega
    · rw [if_neg (by simpa using hlt)]
      rw [List.take_of_length_le (by omega)]
      refine ⟨?_, hP2.2.1⟩
      congr 2
      omega
theorem Great_ok {w : World} {main : Tm} {v : V4} {qs : List Qu} {qa : Option Addr} {qn qc : Nat} (hv : v.is w main) (hq : QsAt w qs qa) (hql : qn = qs.length) (hqm : qn ≤ 9223372036854775807) :
    Calls Try.prog 17 #[.agg (parr v qa qn qc)] w (endW (fun r w' => r = .bool (decide (8192 < tsize main + lsize (preds qs))) ∧ Chg NoS w w') (fun _ _ => False)) := by
  refine F17_calls v.op v.f v.n v.b v.m v.c qa qn qc ?_
  delta F17
  have hP0 := mine_alloc (Chg.refl NoS w) (parr v qa qn qc) 29
  generalize w.alloc (.cells (parr v qa qn qc) 29) = w1 at *
  refine ⟨_, (wp_cell hP0 0).trans rfl, _, (wp_cell hP0 1).trans rfl, _, (wp_cell hP0 2).trans rfl, _, _, _, (wp_cell hP0 3).trans rfl, ?_⟩
  refine Calls.then (LSize_ok main v w1 0 (hv.keep hP0.2.1) (by omega)) ?_
  rintro r w2 ⟨rfl, hc2⟩
  refine ⟨_, rfl, fun s w3 => ∃ j : Nat, s.2 = j ∧ j ≤ qn ∧ s.1 = (min (tsize main + lsize (preds (qs.take j))) 8193 : Nat) ∧ Chg NoS w1 w3, fun s _ => (qn - s.2).toNat,
    ⟨((min (0 + tsize main) 8193 : Nat), 0), ⟨rfl, rfl, trivial⟩, 0, rfl, by omega, by simp [preds, lsize], hc2⟩, ?_⟩
  rintro ⟨x, i⟩ w3 ⟨j, hi, hj, hx, hc3⟩ _
  dsimp only at hi hx ⊢
  subst hi
  subst hx
  have hP3 := hP0.keep hc3
  refine ⟨_, _, _, (mine_cell hP3 4).trans rfl, ?_⟩
  have hle := lsize_preds_le qs j
  by_cases hlt : (j : Int) < qn
  · rw [if_pos (by simpa using hlt)]
    by_cases h8 : ((min (tsize main + lsize (preds (qs.take j))) 8193 : Nat) : Int) ≤ 8192
    · rw [if_pos (by simpa using h8)]
      have hjq : j < qs.length := by omega
      obtain ⟨A, q, hA, q1, q2, q3, q4, hqv⟩ := hq.tm (List.getElem?_eq_getElem hjq)
      have hw3 := hP3.2.1
      refine ⟨_, _, _, (mine_cell hP3 4).trans rfl, by omega, by omega, wSome_of hA ⟨_, cell_keep q1 hw3, _, cell_keep q2 hw3, _, cell_keep q3 hw3, _, _, _, cell_keep q4 hw3, ?_⟩⟩
      refine Calls.then (LSize_ok qs[j].2 q w3 (min (tsize main + lsize (preds (qs.take j))) 8193) (hqv.keep hw3) (by omega)) ?_
      rintro r w4 ⟨rfl, hc4⟩
      have ht := lsize_preds_take hjq
      refine ⟨_, rfl, (((min (tsize main + lsize (preds (qs.take (j + 1)))) 8193 : Nat) : Int), (j : Int) + 1), ⟨?_, by rw [i64w _ (by omega) (by omega)], trivial⟩, ⟨j + 1, rfl, by omega, rfl, hc3.trans hc4⟩, by dsimp only; omega⟩
      congr 2
      omega
    · rw [if_neg (by simpa using h8)]
      refine ⟨?_, hP3.2.1⟩
      congr 1
      apply Bool.eq_iff_iff.2
      simp only [decide_eq_true_eq]
      omega
  · rw [if_neg (by simpa using hlt)]
    rw [List.take_of_length_le (by omega)]
    refine ⟨?_, hP3.2.1⟩
    congr 1
    apply Bool.eq_iff_iff.2
    simp only [decide_eq_true_eq]
    omega
theorem Copied_ok : ∀ (t : Tm) (v : V4) (w : World), v.is w t → tsize t ≤ 1000000 → Calls Try.prog 18 #[.agg v.arr] w (endW (RetT w t) (fun _ _ => False)) := by
  intro t
  generalize hs : tsize t = sz
  induction sz using Nat.strongRecOn generalizing t with
  | _ sz ih =>
    subst hs
    intro v w hv hsz
    obtain ⟨ks, rfl, hlen, hmc, hcm, hrng, hget⟩ := TVal.parts hv
    refine F18_calls v.op v.f v.n v.b v.m v.c ?_
    delta F18
    rw [RetT_O]
    have hP0 := mine_alloc (Chg.refl NoS w) v.arr 26
    have hs1 := size_alloc w (.cells v.arr 26)
    generalize w.alloc (.cells v.arr 26) = w1 at *
    have hZ0 := mine_alloc hP0.2.1 #[.int .i8 0, .int .i8 0, .int .u64 0, .slice none 0 0] 26
    have hs2 := size_alloc w1 (.cells #[.int .i8 0, .int .i8 0, .int .u64 0, .slice none 0 0] 26)
    have hP1 := hP0.keep (chg_alloc w1 (.cells #[.int .i8 0, .int .i8 0, .int .u64 0, .slice none 0 0] 26) NoS)
    generalize w1.alloc (.cells #[.int .i8 0, .int .i8 0, .int .u64 0, .slice none 0 0] 26) = w2 at *
    have hlk := lsize_len ks
    simp only [tsize] at hsz
    refine ⟨fun s w3 => ∃ (j : Nat) (us : List V4), s.2.2.2 = j ∧ j ≤ v.m ∧ s.2.1 = j ∧ w3.ownsRow w2.heap.size 26 4 (.slice s.1 s.2.1 s.2.2.1) s.2.1 (flat us) ∧ VO w3 (fun b => w2.heap.size ≤ b ∧ b < w3.heap.size ∧ (Value.slice s.1 s.2.1 s.2.2.1).ownBlock ≠ some b) us (ks.take j) ∧ Chg NoS w2 w3, fun s _ => (v.m - s.2.2.2).toNat,
      ⟨(none, 0, 0, 0), ⟨rfl, rfl, trivial⟩, 0, [], rfl, by omega, rfl, own_nil' _ _ _ _, .nil, Chg.refl _ _⟩, ?_⟩
    rintro ⟨la, ln, lc, i⟩ w3 ⟨j, us, hi, hj, hln, ho3, hV3, hc3⟩ _
    dsimp only at hi hln ho3 hV3 ⊢
    subst hi
    subst hln
    have hP3 := hP1.keep hc3
    have hZ3 := hZ0.keep hc3
    have z3 := hc3.size
    refine ⟨_, _, _, (mine_cell hP3 3).trans rfl, ?_⟩
    by_cases hlt : (ln : Int) < v.m
    · rw [if_pos (by simpa using hlt)]
      refine ⟨_, _, _, (mine_cell hP3 3).trans rfl, ?_⟩
      have hjk : ln < ks.length := by omega
      obtain ⟨A, hA, hT⟩ := get_ofTake hget hjk
      obtain ⟨o', f', n', b', m', c', q0, q1, q2, q3, hq⟩ := hT.keep hP3.2.1
      have hkm := List.getElem_mem hjk
      have htk := tsize_le hkm
      refine ⟨by omega, by omega, wSome_of hA ⟨_, q0, _, q1, _, q2, _, _, _, q3, ?_⟩⟩
      refine Calls.then (ih _ (tsize_kid hkm) ks[ln] rfl ⟨o', f', n', b', m', c'⟩ w3 hq (by omega)) ?_
      rintro r w5 ⟨u, rfl, hu, hc5⟩
      refine agg4 ?_
      have hb6 := blk_alloc w5 (.cells u.arr 26)
      have hc6 := chg_alloc w5 (.cells u.arr 26) NoS
      generalize w5.alloc (.cells u.arr 26) = w6 at *
      have hc36 := hc5.trans hc6
      have z5 := hc5.size
      have z6 := hc6.size
      refine terms_append (base := w2.heap.size) (us := [u]) (own_none ho3 hc36) rfl (reads_lit hb6) (fun e => by cases e) (by omega) (by omega) ?_
      intro a7 c7 w7 ho7 hc7 hb7
      have z7 := hc7.size
      have hold := fun k => own_lt' ho3 (k := k)
      refine ⟨_, _, _, rfl, (a7, ln + 1, c7, (ln : Int) + 1), ⟨rfl, by rw [i64w _ (by omega) (by omega)], trivial⟩, ⟨ln + 1, us ++ [u], by dsimp only; omega, by omega, rfl, ho7, ?_, chg_own (hc3.trans hc36) (Nat.le_refl _) (own_none ho3 hc36) hc7⟩, by dsimp only; omega⟩
      rw [take_snoc hjk]
      exact ((hV3.keepN hc36).keep hc7 (fun b hb e => hb.2.2 e) fun b hb => ⟨hb.1, by omega, fun e => by
        rcases hb7 b e with e' | e'
        · exact hb.2.2 e'
        · omega⟩).append (.cons ((hu.lt.keepN hc6).keep hc7 (fun b hb e => by have := (hold b e).1; omega) fun b hb => ⟨by omega, by omega, fun e => by
        rcases hb7 b e with e' | e'
        · have := (hold b e').1; omega
        · omega⟩) .nil)
    · rw [if_neg (by simpa using hlt)]
      have hlnm : ln = ks.length := by omega
      rw [List.take_of_length_le (by omega)] at hV3
      have hcap := own_cap ho3
      have hat := own_at ho3
      refine setW_blk hP3.1 (by simp) rfl fun w4 b4 c4 _ => ?_
      have hP4 : Mine w w4 w.heap.size (V4.arr ⟨v.op, v.f, v.n, la, ln, lc⟩) 26 := ⟨b4, hP3.2.1.trans2 c4 (fun k hk e => by have : k = w.heap.size := e; omega), hP3.2.2⟩
      have z4 := c4.size
      have hZ4 : Mine w w4 w1.heap.size #[.int .i8 0, .int .i8 0, .int .u64 0, .slice none 0 0] 26 := ⟨c4.blk hZ3.1 (fun e => by have : w1.heap.size = w.heap.size := e; omega), hP4.2.1, by omega⟩
      refine get4 hP4 ?_
      refine ret4 (u := ⟨v.op, v.f, v.n, la, ln, lc⟩) hZ4 rfl (S := fun b => w2.heap.size ≤ b) ?_ fun b hb => ⟨by omega, by omega⟩
      exact own_mk (us := us) hrng hlnm hcap.1 hcap.2 (hV3.keep c4 (fun b hb e => by have : b = w.heap.size := e; omega) fun b hb => hb.1) ((own_reads' ho3).chg c4 fun A hA e => by have := hat A hA; have : A.block = w.heap.size := e; omega) fun A hA => ⟨(hat A hA).1, (own_whole ho3 A hA).chg c4 fun e => by have := hat A hA; have : A.block = w.heap.size := e; omega⟩
end Go.Proofs.Ytbpckcmejkcciaa.B
