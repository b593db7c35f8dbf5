/-
  Policies: a policy made plain, by the document; two policies compared; the law PolicyPlain.
-/
import Derived.Test.YtbpckcmejkcciaaPolYb
import Derived.Test.YtbpckcmejkcciaaPolW
import Derived.Test.YtbpckcmejkcciaaBT
set_option maxRecDepth 100000
set_option linter.unusedVariables false
set_option linter.unusedSimpArgs false
namespace Go.Proofs.Ytbpckcmejkcciaa.B
open Go Go.Proofs Go.Proofs.YtbpckcmejkcciaaEng

theorem rPlainP_ok {w : World} {main : Tm} {v : V4} {qs : List Qu} {qa : Option Addr} {qn qc : Nat} (hv : v.is w main) (hq : QsAt w qs qa) (hql : qn = qs.length) (hqm : qn ≤ 9223372036854775807) :
    Calls Try.prog 15 #[.agg (parr v qa qn qc)] w (endW (fun r w' => if checkS main qs = 0 then RetP w (plainS main) (plainQ qs) r w' else r = .tuple #[.agg (parr ⟨0, 0, 0, none, 0, 0⟩ none 0 0), .int .i64 (checkS main qs)] ∧ Chg NoS w w') (fun _ _ => False)) := by
  refine F15_calls v.op v.f v.n v.b v.m v.c qa qn qc ?_
  delta F15
  have hP0 := mine_alloc (Chg.refl NoS w) (parr v qa qn qc) 29
  have hs1 := size_alloc w (.cells (parr v qa qn qc) 29)
  generalize w.alloc (.cells (parr v qa qn qc) 29) = w1 at *
  have hZ0 := mine_alloc hP0.2.1 #[.int .i8 0, .int .i8 0, .int .u64 0, .slice none 0 0, .slice none 0 0] 29
  have hs2 := size_alloc w1 (.cells #[.int .i8 0, .int .i8 0, .int .u64 0, .slice none 0 0, .slice none 0 0] 29)
  have hP1 := hP0.keep (chg_alloc w1 (.cells #[.int .i8 0, .int .i8 0, .int .u64 0, .slice none 0 0, .slice none 0 0] 29) NoS)
  generalize w1.alloc (.cells #[.int .i8 0, .int .i8 0, .int .u64 0, .slice none 0 0, .slice none 0 0] 29) = w2 at *
  refine get5p hP1 ?_
  refine Calls.then (rCheck_ok (TVal.keep hP1.2.1 hv) (hq.keep hP1.2.1) hql hqm) ?_
  rintro r w3 ⟨rfl, hc3⟩
  refine ⟨_, rfl, ?_⟩
  have hP3 := hP1.keep hc3
  have hZ3 := hZ0.keep hc3
  by_cases he : checkS main qs = 0
  rotate_left
  · rw [if_pos (by simp [he])]
    refine set5p ⟨0, 0, 0, none, 0, 0⟩ none 0 0 hZ3 trivial ?_
    intro w4 hM4 _
    refine get5p hM4 ?_
    dsimp only
    rw [if_neg he]
    exact ⟨rfl, hM4.2.1⟩
  rw [if_neg (by simp [he])]
  obtain ⟨k1, k2, k3, k4, k5⟩ := check_zero he
  have hlmain : tsize main ≤ 4096 := by simp only [lsize] at k2; omega
  refine ⟨_, (wp_cell hP3 0).trans rfl, _, (wp_cell hP3 1).trans rfl, _, (wp_cell hP3 2).trans rfl, _, _, _, (wp_cell hP3 3).trans rfl, ?_⟩
  have z3 := hc3.size
  refine Calls.then (rPlain_ok main false v w3 k4 (TVal.keep hP3.2.1 hv) (by omega)) ?_
  rintro r w4 ⟨u, rfl, hu, hc4⟩
  refine agg4 ?_
  have hP4 := hP3.keep hc4
  have hZ4 := hZ3.keep hc4
  have z4 := hc4.size
  have hul := hu.lt
  -- the policy that comes out
  refine set5p u none 0 0 (mine_alloc (Chg.refl NoS w4) #[.int .i8 0, .int .i8 0, .int .u64 0, .slice none 0 0, .slice none 0 0] 29) trivial ?_
  intro w5 hO5 _
  have hc5 := hO5.2.1
  have hP5 := hP4.keep hc5
  have hZ5 := hZ4.keep hc5
  have hltO := lt_of_blk hO5.1
  have z5 := hc5.size
  have hO5' : Mine w2 w5 w4.heap.size (parr u none 0 0) 29 := ⟨hO5.1, ((hc3.trans hc4).trans hc5), by omega⟩
  refine ⟨fun s w6 => ∃ (j : Nat) (a : Option Addr) (c : Nat) (us : List VQ), s = j ∧ j ≤ qn ∧ Mine w2 w6 w4.heap.size (parr u a j c) 29 ∧ w6.ownsRow (w4.heap.size + 1) 40 5 (.slice a j c) j (flatQ us) ∧ QO w6 (fun b => w2.heap.size ≤ b ∧ b < w6.heap.size ∧ b ≠ w4.heap.size ∧ (Value.slice a j c).ownBlock ≠ some b) us (plainQ (qs.take j)) ∧ u.own w6 (fun b => w2.heap.size ≤ b ∧ b < w4.heap.size) (plainS main), fun s _ => (qn - s).toNat,
    ⟨0, ⟨rfl, trivial⟩, 0, none, 0, [], rfl, by omega, hO5', own_nil' _ _ _ _, .nil, (hul.keepN hc5).mono fun b hb => ⟨by omega, hb.2⟩⟩, ?_⟩
  rintro s w6 ⟨j, a, c, us, rfl, hj, hO6, ho6, hQ6, hu6⟩ _
  have hc26 := hO6.2.1
  have hw26 : Chg NoS w w6 := hP1.2.1.trans hc26
  have hP6 := hP1.keep hc26
  have hZ6 := hZ0.keep hc26
  have hlt6 := lt_of_blk hO6.1
  refine ⟨_, _, _, (mine_cell hP6 4).trans rfl, ?_⟩
  by_cases hlt : (j : Int) < qn
  · rw [if_pos (by simpa using hlt)]
    have hjq : j < qs.length := by omega
    obtain ⟨A, q, hA, q0, q1, q2, q3, q4, hqv⟩ := hq.cells (List.getElem?_eq_getElem hjq)
    have hc68 := chg_drew w6 NoS
    have hO8 := hO6.keep hc68
    have hP8 := hP6.keep hc68
    have hw8 := hw26.trans hc68
    refine ⟨NoS, fun x => x, ?_⟩
    generalize w6.drew = w8 at *
    have k0 := cell_keep q0 hw8
    have k1 := cell_keep q1 hw8
    have k2' := cell_keep q2 hw8
    have k3 := cell_keep q3 hw8
    have k4' := cell_keep q4 hw8
    have e1 : ∀ i, addK (addK (addK A (j * 5)) 1) i = addK (addK A (j * 5)) (1 + i) := fun i => addK_addK _ _ _
    refine ⟨_, _, _, (mine_cell hO8 4).trans rfl, fun x => x, _, _, _, (mine_cell hP8 4).trans rfl, by omega, by omega, wSome_of hA ⟨fun x => x, _, k0, fun x => x, _, _, _, (mine_cell hP8 4).trans rfl, by omega, by omega, wSome_of hA ⟨fun x => x, _, (by rw [Int.toNat_natCast, e1]; exact k1), _, (by rw [Int.toNat_natCast, e1]; exact k2'), _, (by rw [Int.toNat_natCast, e1]; exact k3), _, _, _, (by rw [Int.toNat_natCast, e1]; exact k4'), ?_⟩⟩⟩
    obtain ⟨q', hq', hqr⟩ := qAll_right (Nat.le_refl _) k5 j hjq
    rw [List.getElem?_eq_getElem hjq] at hq'
    cases hq'
    have hqsz : tsize qs[j].2 ≤ 4096 := by
      have h1 : tsize qs[j].2 ≤ lsize (preds qs) := tsize_le (List.mem_map.2 ⟨qs[j], List.getElem_mem hjq, rfl⟩)
      simp only [lsize] at k2
      omega
    refine Calls.then (rPlain_ok qs[j].2 true q w8 hqr (hqv.keep hw8) (by omega)) ?_
    rintro r w9 ⟨p, rfl, hp, hc9⟩
    refine agg4 ?_
    have hb10 := blk_alloc w9 (.cells #[.string qs[j].1, .int .i8 p.op, .int .i8 p.f, .int .u64 p.n, .slice p.b p.m p.c] 40)
    have hc10 := chg_alloc w9 (.cells #[.string qs[j].1, .int .i8 p.op, .int .i8 p.f, .int .u64 p.n, .slice p.b p.m p.c] 40) NoS
    have hk9 : Kept NoS w8 w9 := ⟨hc9.size, fun b hb _ => hc9.block b hb (fun x => x)⟩
    have hk10 : Kept NoS w8 (w9.alloc (.cells #[.string qs[j].1, .int .i8 p.op, .int .i8 p.f, .int .u64 p.n, .slice p.b p.m p.c] 40)) := ⟨(hc9.trans hc10).size, fun b hb _ => (hc9.trans hc10).block b hb (fun x => x)⟩
    refine ⟨hk9, hk10, ?_⟩
    clear hk9 hk10
    generalize w9.alloc (.cells #[.string qs[j].1, .int .i8 p.op, .int .i8 p.f, .int .u64 p.n, .slice p.b p.m p.c] 40) = w10 at *
    have hc610 := (hc68.trans hc9).trans hc10
    have z6 := hc26.size
    have z8 := hc68.size
    have z9 := hc9.size
    have z10 := hc10.size
    refine queries_append (base := w4.heap.size + 1) (us := [(qs[j].1, p)]) (own_none ho6 hc610) rfl (reads_lit hb10) (fun e => by cases e) (by omega) (by omega) ?_
    intro a11 c11 w11 ho11 hc11 hb11
    have z11 := hc11.size
    refine ⟨_, _, _, rfl, ?_⟩
    have hold := fun k => own_lt' ho6 (k := k)
    have hO10 := hO6.keep hc610
    have hb := hc11.blk hO10.1 (fun e => by have := (hold w4.heap.size e).2; omega)
    rw [addK_lit, Nat.zero_add]
    refine setW_blk hb (by simp [parr]) rfl fun w12 b12 c12 _ => ?_
    have z12 := c12.size
    have hcar : (parr u a j c).setIfInBounds 4 (.slice a11 (j + 1) c11) = parr u a11 (j + 1) c11 := by simp [parr]
    rw [hcar] at b12
    have hown11 : ∀ k, (Value.slice a11 (j + 1) c11).ownBlock = some k → w4.heap.size + 1 ≤ k := fun k e => (own_lt' ho11 e).2
    refine ⟨(j : Int) + 1, ⟨by rw [i64w _ (by omega) (by omega)], trivial⟩, ⟨j + 1, a11, c11, us ++ [(qs[j].1, p)], by omega, by omega, ⟨b12, ?_, hO6.2.2⟩, own_of_chg ho11 c12 (fun k e e' => by have : k = w4.heap.size := e'; have := hown11 k e; omega), ?_, ?_⟩, by first | omega | (dsimp only; omega)⟩
    · exact ((hc26.trans hc610).trans2 hc11 (fun k hk e => by have := (hold k e).2; omega)).trans2 c12 (fun k hk e => by have : k = w4.heap.size := e; omega)
    · rw [plainQ_take hjq]
      have h1 : QO w12 (fun b => w2.heap.size ≤ b ∧ b < w12.heap.size ∧ b ≠ w4.heap.size ∧ (Value.slice a11 (j + 1) c11).ownBlock ≠ some b) us (plainQ (qs.take j)) :=
        ((hQ6.keepN hc610).keep hc11 (fun b hb e => hb.2.2.2 e) (T := fun b => w2.heap.size ≤ b ∧ b < w6.heap.size ∧ b ≠ w4.heap.size ∧ (Value.slice a j c).ownBlock ≠ some b) (fun b hb => hb)).keep c12 (fun b hb e => hb.2.2.1 e) fun b hb => ⟨hb.1, by omega, hb.2.2.1, fun e => by
          rcases hb11 b e with e' | e'
          · exact hb.2.2.2 e'
          · omega⟩
      have h2 : p.own w12 (fun b => w2.heap.size ≤ b ∧ b < w12.heap.size ∧ b ≠ w4.heap.size ∧ (Value.slice a11 (j + 1) c11).ownBlock ≠ some b) (plainS qs[j].2) :=
        ((hp.lt.keepN hc10).keep hc11 (fun b hb e => by have := (hold b e).1; omega) (T := fun b => w8.heap.size ≤ b ∧ b < w9.heap.size) (fun b hb => hb)).keep c12 (fun b hb e => by have : b = w4.heap.size := e; omega) fun b hb => ⟨by omega, by omega, by omega, fun e => by
          rcases hb11 b e with e' | e'
          · have := (hold b e').1; omega
          · omega⟩
      exact h1.append (.cons h2 .nil)
    · exact ((hu6.keepN hc610).keep hc11 (fun b hb e => by have := (hold b e).2; omega) (T := fun b => w2.heap.size ≤ b ∧ b < w4.heap.size) (fun b hb => hb)).keep c12 (fun b hb e => by have : b = w4.heap.size := e; omega) fun b hb => hb
  · rw [if_neg (by simpa using hlt)]
    have hjn : j = qs.length := by omega
    subst hjn
    rw [List.take_length] at hQ6
    refine get5p hO6 ?_
    refine set5p u a qs.length c hZ6 trivial ?_
    intro w7 hM7 hc7
    refine get5p hM7 ?_
    dsimp only
    rw [if_pos he]
    have hlenQ : (plainQ qs).length = qs.length := by simp [plainQ]
    unfold RetP
    rw [hlenQ]
    refine ⟨u, us, a, c, rfl, own_of_chg (own_base' ho6 (fun k e => by have := (own_lt' ho6 e).2; omega)) hc7 (fun k e e' => by have := (own_lt' ho6 e).2; have : k = w1.heap.size := e'; omega), ?_, ?_, hM7.2.1⟩
    · exact hu6.keep hc7 (fun b hb e => by have : b = w1.heap.size := e; omega) fun b hb => ⟨by omega, fun e => by have := (own_lt' ho6 e).2; omega⟩
    · exact hQ6.keep hc7 (fun b hb e => by have : b = w1.heap.size := e; omega) fun b hb => ⟨by omega, hb.2.2.2⟩
theorem qtake {qs : List Qu} {j : Nat} (hj : j < qs.length) : qs.take (j + 1) = qs.take j ++ [qs[j]] := take_snoc hj
theorem take_extq {ks ls : List Qu} {j : Nat} (hj : j < ks.length) (hl : j < ls.length) (h : ks.take j = ls.take j) : ks.take (j + 1) = ls.take (j + 1) ↔ ks[j] = ls[j] := by
  rw [take_snoc hj, take_snoc hl, h]
  constructor
  · intro h
    have := List.append_cancel_left h
    injection this
  · intro h
    rw [h]
/-- two policies are the same -/
theorem Policies_ok {w : World} {ma mb : Tm} {va vb : V4} {qa qb : List Qu} {aa ab : Option Addr} {na nb ca cb : Nat} (ha : va.is w ma) (hb : vb.is w mb) (hqa : QsAt w qa aa) (hqb : QsAt w qb ab) (hna : na = qa.length) (hnb : nb = qb.length) (hm : na ≤ 9223372036854775807) :
    Calls Try.prog 16 #[.agg (parr va aa na ca), .agg (parr vb ab nb cb)] w (endW (fun r w' => ∃ b, r = .bool b ∧ (b = true ↔ ma = mb ∧ qa = qb) ∧ Chg NoS w w') (fun _ _ => False)) := by
  refine F16_calls va.op va.f va.n va.b va.m va.c aa na ca vb.op vb.f vb.n vb.b vb.m vb.c ab nb cb ?_
  delta F16
  have hA0 := mine_alloc (Chg.refl NoS w) (parr va aa na ca) 29
  generalize w.alloc (.cells (parr va aa na ca) 29) = w1 at *
  have hB0 := mine_alloc hA0.2.1 (parr vb ab nb cb) 29
  have hA1 := hA0.keep (chg_alloc w1 (.cells (parr vb ab nb cb) 29) NoS)
  generalize w1.alloc (.cells (parr vb ab nb cb) 29) = w2 at *
  refine ⟨fun _ w3 => Chg NoS w2 w3 ∧ ma = mb ∧ na = nb, ?_, ?_⟩
  rotate_left
  · refine ⟨_, (wp_cell hA1 0).trans rfl, _, (wp_cell hA1 1).trans rfl, _, (wp_cell hA1 2).trans rfl, _, _, _, (wp_cell hA1 3).trans rfl, _, (wp_cell hB0 0).trans rfl, _, (wp_cell hB0 1).trans rfl, _, (wp_cell hB0 2).trans rfl, _, _, _, (wp_cell hB0 3).trans rfl, ?_⟩
    refine Calls.then (Terms_ok ma mb va vb w2 (ha.keep hA1.2.1) (hb.keep hA1.2.1)) ?_
    rintro r w3 ⟨b, rfl, hbb, hc3⟩
    have hA3 := hA1.keep hc3
    have hB3 := hB0.keep hc3
    refine ⟨_, rfl, ?_⟩
    by_cases h1 : b = true
    rotate_left
    · rw [if_neg (by simp [h1])]
      exact ⟨false, rfl, ⟨fun h => (by cases h), fun h => absurd (hbb.2 h.1) h1⟩, hA3.2.1⟩
    rw [if_pos (by simp [h1])]
    refine ⟨_, _, _, (mine_cell hA3 4).trans rfl, _, _, _, (mine_cell hB3 4).trans rfl, ?_⟩
    by_cases h2 : na = nb
    · rw [if_neg (by simp [h2])]
      exact ⟨(), trivial, hc3, hbb.1 h1, h2⟩
    · rw [if_pos (by simp; omega)]
      exact ⟨false, rfl, ⟨fun h => (by cases h), fun h => absurd (by rw [hna, hnb, h.2]) h2⟩, hA3.2.1⟩
  rintro _ w3 ⟨hc3, hmm, hnn⟩ _
  refine ⟨fun s w4 => ∃ j : Nat, s = j ∧ j ≤ na ∧ qa.take j = qb.take j ∧ Chg NoS w2 w4, fun s _ => (na - s).toNat, ⟨0, ⟨rfl, trivial⟩, 0, rfl, by omega, rfl, hc3⟩, ?_⟩
  rintro s w4 ⟨j, rfl, hj, heq, hc4⟩ _
  have hA4 := hA1.keep hc4
  have hB4 := hB0.keep hc4
  refine ⟨_, _, _, (mine_cell hA4 4).trans rfl, ?_⟩
  by_cases hlt : (j : Int) < na
  · rw [if_pos (by simpa using hlt)]
    have hja : j < qa.length := by omega
    have hjb : j < qb.length := by omega
    obtain ⟨A, q, hA, q0, q1, q2, q3, q4, hqv⟩ := hqa.cells (List.getElem?_eq_getElem hja)
    obtain ⟨B, p, hB, p0, p1, p2, p3, p4, hpv⟩ := hqb.cells (List.getElem?_eq_getElem hjb)
    have hc5 := chg_drew w4 NoS
    have hA5 := hA4.keep hc5
    have hB5 := hB4.keep hc5
    generalize w4.drew = w5 at *
    have hw5 := hA5.2.1
    have e1 : ∀ (A : Addr) i, addK (addK (addK A (j * 5)) 1) i = addK (addK A (j * 5)) (1 + i) := fun A i => addK_addK _ _ _
    refine ⟨_, _, _, (mine_cell hA5 4).trans rfl, by omega, by omega, wSome_of hA ⟨_, cell_keep q0 hw5, _, _, _, (mine_cell hB5 4).trans rfl, by omega, by omega, wSome_of hB ⟨_, cell_keep p0 hw5, ?_⟩⟩⟩
    have hte := take_extq hja hjb heq
    by_cases hs : qa[j].1 = qb[j].1
    · rw [if_pos (by simp [hs])]
      refine ⟨_, _, _, (mine_cell hA5 4).trans rfl, by omega, by omega, wSome_of hA ⟨_, (by rw [Int.toNat_natCast, e1]; exact cell_keep q1 hw5), _, (by rw [Int.toNat_natCast, e1]; exact cell_keep q2 hw5), _, (by rw [Int.toNat_natCast, e1]; exact cell_keep q3 hw5), _, _, _, (by rw [Int.toNat_natCast, e1]; exact cell_keep q4 hw5), _, _, _, (mine_cell hB5 4).trans rfl, by omega, by omega, wSome_of hB ⟨_, (by rw [Int.toNat_natCast, e1]; exact cell_keep p1 hw5), _, (by rw [Int.toNat_natCast, e1]; exact cell_keep p2 hw5), _, (by rw [Int.toNat_natCast, e1]; exact cell_keep p3 hw5), _, _, _, (by rw [Int.toNat_natCast, e1]; exact cell_keep p4 hw5), ?_⟩⟩⟩
      refine Calls.then (Terms_ok qa[j].2 qb[j].2 q p w5 (hqv.keep hw5) (hpv.keep hw5)) ?_
      rintro r w6 ⟨b, rfl, hbb, hc6⟩
      refine ⟨_, rfl, ?_⟩
      by_cases h1 : b = true
      · rw [if_neg (by simp [h1])]
        exact ⟨(j : Int) + 1, ⟨by rw [i64w _ (by omega) (by omega)], trivial⟩, ⟨j + 1, rfl, by omega, hte.2 (Prod.ext hs (hbb.1 h1)), (hc4.trans hc5).trans hc6⟩, by first | omega | (dsimp only; omega)⟩
      · rw [if_pos (by simp [h1])]
        exact ⟨false, rfl, ⟨fun h => (by cases h), fun h => absurd (hbb.2 (by have := h.2; subst this; rfl)) h1⟩, (hA5.keep hc6).2.1⟩
    · rw [if_neg (by
        intro h
        have h' : ¬ ¬ ((ByteArray.toList qa[j].1 == ByteArray.toList qb[j].1) = true) := by
          cases hh : (ByteArray.toList qa[j].1 == ByteArray.toList qb[j].1) with
          | true => exact fun h => h rfl
          | false => rw [hh] at h; cases h
        exact hs (bytes_same (eq_of_beq (Decidable.not_not.1 h'))))]
      exact ⟨false, rfl, ⟨fun h => (by cases h), fun h => absurd (by have := h.2; subst this; rfl) hs⟩, hw5⟩
  · rw [if_neg (by simpa using hlt)]
    have hjn : j = na := by omega
    rw [List.take_of_length_le (by omega), List.take_of_length_le (by omega)] at heq
    exact ⟨true, rfl, ⟨fun _ => ⟨hmm, heq⟩, fun _ => rfl⟩, hA4.2.1⟩
theorem zero_is (w : World) : V4.is ⟨0, 0, 0, none, 0, 0⟩ w (bareS 0) := (own_bare w (fun _ => False) (by omega)).is
theorem qs_nil (w : World) : QsAt w [] none := fun j q h => by simp at h
theorem PolicyPlain_walk (u0 : V4) (qa0 : Option Addr) (qn0 qc0 : Nat) (main0 : Tm) (qs0 : List Qu) (w : World) (i0 : PolIn w u0 qa0 qn0 qc0 main0 qs0) :
    Calls Try.prog 4 #[.agg (parr u0 qa0 qn0 qc0)] w (endW (fun v w' => v = .bool true ∧ Chg NoS w w') (fun _ _ => False)) := by
  refine F4_calls u0.op u0.f u0.n u0.b u0.m u0.c qa0 qn0 qc0 ?_
  delta F4
  have hP := mine_alloc (Chg.refl NoS w) (parr u0 qa0 qn0 qc0) 29
  generalize w.alloc (.cells (parr u0 qa0 qn0 qc0) 29) = w1 at *
  refine get5p hP ?_
  refine Calls.then (PlainP_ok (i0.main.keep hP.2.1) (i0.row.keep hP.2.1) i0.len) ?_
  intro r w2 hr
  obtain ⟨m1, v1, a1, n1, c1, qs1, e1, rfl, hv1, hq1, hn1, hc2, hval⟩ : ∃ (m1 : Tm) (v1 : V4) (a1 : Option Addr) (n1 c1 : Nat) (qs1 : List Qu) (e1 : Int), r = .tuple #[.agg (parr v1 a1 n1 c1), .int .i64 e1] ∧ v1.is w2 m1 ∧ QsAt w2 qs1 a1 ∧ n1 = qs1.length ∧ Chg NoS w1 w2 ∧ e1 = checkS main0 qs0 ∧ (e1 = 0 → m1 = plainS main0 ∧ qs1 = plainQ qs0) ∧ (e1 ≠ 0 → m1 = bareS 0 ∧ qs1 = []) := by
    by_cases he : checkS main0 qs0 = 0
    · rw [if_pos he] at hr
      obtain ⟨u, us, a, c, rfl, ho, hu, hq, hc⟩ := hr
      exact ⟨_, u, a, _, c, _, 0, rfl, hu.is, hq.at (own_reads' ho), rfl, hc, he.symm, fun _ => ⟨rfl, rfl⟩, fun h => absurd rfl h⟩
    · rw [if_neg he] at hr
      exact ⟨bareS 0, ⟨0, 0, 0, none, 0, 0⟩, none, 0, 0, [], checkS main0 qs0, hr.1, zero_is _, qs_nil _, rfl, hr.2, rfl, fun h => absurd h he, fun _ => ⟨rfl, rfl⟩⟩
  refine tup5 ?_
  refine set5p v1 a1 n1 c1 (mine_alloc (Chg.refl NoS w2) _ _) trivial ?_
  intro w3 hM3 _
  have hc3 := hM3.2.1
  have hP3 := (hP.keep hc2).keep hc3
  refine get5p hP3 ?_
  refine Calls.then (rPlainP_ok (i0.main.keep hP3.2.1) (i0.row.keep hP3.2.1) i0.len i0.most) ?_
  intro r w4 hr
  obtain ⟨m2, v2, a2, n2, c2, qs2, e2, rfl, hv2, hq2, hn2, hc4, hval2⟩ : ∃ (m1 : Tm) (v1 : V4) (a1 : Option Addr) (n1 c1 : Nat) (qs1 : List Qu) (e1 : Int), r = .tuple #[.agg (parr v1 a1 n1 c1), .int .i64 e1] ∧ v1.is w4 m1 ∧ QsAt w4 qs1 a1 ∧ n1 = qs1.length ∧ Chg NoS w3 w4 ∧ e1 = checkS main0 qs0 ∧ (e1 = 0 → m1 = plainS main0 ∧ qs1 = plainQ qs0) ∧ (e1 ≠ 0 → m1 = bareS 0 ∧ qs1 = []) := by
    by_cases he : checkS main0 qs0 = 0
    · rw [if_pos he] at hr
      obtain ⟨u, us, a, c, rfl, ho, hu, hq, hc⟩ := hr
      exact ⟨_, u, a, _, c, _, 0, rfl, hu.is, hq.at (own_reads' ho), rfl, hc, he.symm, fun _ => ⟨rfl, rfl⟩, fun h => absurd rfl h⟩
    · rw [if_neg he] at hr
      exact ⟨bareS 0, ⟨0, 0, 0, none, 0, 0⟩, none, 0, 0, [], checkS main0 qs0, hr.1, zero_is _, qs_nil _, rfl, hr.2, rfl, fun h => absurd h he, fun _ => ⟨rfl, rfl⟩⟩
  refine tup5 ?_
  refine set5p v2 a2 n2 c2 (mine_alloc (Chg.refl NoS w4) _ _) trivial ?_
  intro w5 hM5 _
  have hc5 := hM5.2.1
  have hM35 := (hM3.keep hc4).keep hc5
  rw [if_pos (by simp [hval.1, hval2.1])]
  refine get5p hM35 (get5p hM5 ?_)
  have hc25 := (hc3.trans hc4).trans hc5
  have hmost : n1 ≤ 9223372036854775807 := by
    by_cases he : e1 = 0
    · rw [hn1, (hval.2.1 he).2]
      have := i0.most
      have := i0.len
      simp [plainQ]
      omega
    · rw [hn1, (hval.2.2 he).2]
      simp
  refine Calls.then (Policies_ok (hv1.keep hc25) (hv2.keep hc5) (hq1.keep hc25) (hq2.keep hc5) hn1 hn2 hmost) ?_
  rintro r w6 ⟨b, rfl, hbb, hc6⟩
  have hbt : b = true := hbb.2 (by
    by_cases he : checkS main0 qs0 = 0
    · have h1 := hval.2.1 (hval.1.trans he)
      have h2 := hval2.2.1 (hval2.1.trans he)
      exact ⟨h1.1.trans h2.1.symm, h1.2.trans h2.2.symm⟩
    · have h1 := hval.2.2 (by rw [hval.1]; exact he)
      have h2 := hval2.2.2 (by rw [hval2.1]; exact he)
      exact ⟨h1.1.trans h2.1.symm, h1.2.trans h2.2.symm⟩)
  refine ⟨_, rfl, ?_⟩
  rw [if_pos hbt]
  refine Calls.then (Wakes_ok w6) ?_
  rintro r w7 ⟨rfl, hc7⟩
  exact ⟨_, rfl, rfl, (((hP3.2.1.trans hc4).trans hc5).trans hc6).trans hc7⟩
end Go.Proofs.Ytbpckcmejkcciaa.B
