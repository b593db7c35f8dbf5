/-
  Policies: a policy made plain, by the program.
-/
import Derived.Test.YtbpckcmejkcciaaPolS
set_option maxRecDepth 100000
set_option linter.unusedVariables false
set_option linter.unusedSimpArgs false
namespace Go.Proofs.Ytbpckcmejkcciaa.B
open Go Go.Proofs Go.Proofs.YtbpckcmejkcciaaEng

abbrev parr (v : V4) (a : Option Addr) (n c : Nat) : Array Value := #[.int .i8 v.op, .int .i8 v.f, .int .u64 v.n, .slice v.b v.m v.c, .slice a n c]
theorem set5p {w wX : World} {g : Nat} (v : V4) (a : Option Addr) (n c : Nat) {x0 x1 x2 x3 x4 : Value} {K : World → Prop} (h : Mine w wX g #[x0, x1, x2, x3, x4] 29) (hs : True) (hK : ∀ w', Mine w w' g (parr v a n c) 29 → Chg (OnlyB g) wX w' → K w') :
    setW wX (addK ⟨g, 0, none⟩ 0) (.int .i8 v.op) fun w1 => setW w1 (addK ⟨g, 0, none⟩ 1) (.int .i8 v.f) fun w2 => setW w2 (addK ⟨g, 0, none⟩ 2) (.int .u64 v.n) fun w3 => setW w3 (addK ⟨g, 0, none⟩ 3) (.slice v.b v.m v.c) fun w4 => setW w4 (addK ⟨g, 0, none⟩ 4) (.slice a n c) K := by
  simp only [addK_lit, Nat.zero_add]
  refine setW_blk h.1 (by simp) rfl fun w1 b1 c1 _ => ?_
  refine setW_blk b1 (by simp) rfl fun w2 b2 c2 _ => ?_
  refine setW_blk b2 (by simp) rfl fun w3 b3 c3 _ => ?_
  refine setW_blk b3 (by simp) rfl fun w4 b4 c4 _ => ?_
  refine setW_blk b4 (by simp) rfl fun w5 b5 c5 _ => ?_
  have hc := (((c1.trans c2).trans c3).trans c4).trans c5
  refine hK w5 ⟨?_, h.2.1.trans2 hc (fun k hk e => by have : k = g := e; have := h.2.2; omega), h.2.2⟩ hc
  have e : (((((#[x0, x1, x2, x3, x4] : Array Value).setIfInBounds 0 (.int .i8 v.op)).setIfInBounds 1 (.int .i8 v.f)).setIfInBounds 2 (.int .u64 v.n)).setIfInBounds 3 (.slice v.b v.m v.c)).setIfInBounds 4 (.slice a n c) = parr v a n c := by simp [parr]
  rw [← e]
  exact b5
theorem get5p {w wX : World} {g : Nat} {v : V4} {a : Option Addr} {n c : Nat} {K : Int → Int → Int → Option Addr → Nat → Nat → Option Addr → Nat → Nat → Prop} (h : Mine w wX g (parr v a n c) 29) (hK : K v.op v.f v.n v.b v.m v.c a n c) :
    ∃ x, wX.cell? (addK ⟨g, 0, none⟩ 0) = some (.int .i8 x) ∧ ∃ x1, wX.cell? (addK ⟨g, 0, none⟩ 1) = some (.int .i8 x1) ∧ ∃ x2, wX.cell? (addK ⟨g, 0, none⟩ 2) = some (.int .u64 x2) ∧ ∃ a n c, wX.cell? (addK ⟨g, 0, none⟩ 3) = some (.slice a n c) ∧ ∃ a1 n1 c1, wX.cell? (addK ⟨g, 0, none⟩ 4) = some (.slice a1 n1 c1) ∧ K x x1 x2 a n c a1 n1 c1 :=
  ⟨_, (mine_cell h 0).trans rfl, _, (mine_cell h 1).trans rfl, _, (mine_cell h 2).trans rfl, _, _, _, (mine_cell h 3).trans rfl, _, _, _, (mine_cell h 4).trans rfl, hK⟩
def plainQ (qs : List Qu) : List Qu := qs.map fun q => (q.1, plainS q.2)
theorem plainQ_take {qs : List Qu} {j : Nat} (hj : j < qs.length) : plainQ (qs.take (j + 1)) = plainQ (qs.take j) ++ [(qs[j].1, plainS qs[j].2)] := by
  rw [take_snoc hj]
  unfold plainQ
  rw [List.map_append]
  rfl
theorem check_zero {main : Tm} {qs : List Qu} (h : checkS main qs = 0) : qs.length ≤ 32 ∧ lsize (main :: preds qs) ≤ 4096 ∧ ldepth (main :: preds qs) ≤ 128 ∧ rightS main false = true ∧ qAll qs qs.length = true := by
  unfold checkS at h
  split at h
  · cases h
  split at h
  · cases h
  split at h
  · rename_i h1 h2 h3
    unfold bigS at h2
    simp at h2
    exact ⟨by omega, h2.1, h2.2, h3⟩
  · cases h
theorem qAll_right {qs : List Qu} : ∀ {j : Nat}, j ≤ qs.length → qAll qs j = true → ∀ i (hi : i < j), ∃ q, qs[i]? = some q ∧ rightS q.2 true = true
  | 0, _, _, i, hi => by omega
  | j + 1, hj, h, i, hi => by
    have hg := qAll_get (qs := qs) (j := j) (by omega)
    rw [hg, Bool.and_eq_true, Bool.and_eq_true] at h
    rcases Nat.lt_or_ge i j with h' | h'
    · exact qAll_right (by omega) h.1 i h'
    · have : i = j := by omega
      subst this
      exact ⟨_, List.getElem?_eq_getElem (by omega), h.2.2⟩
theorem wp_cell {w w6 : World} {g : Nat} {cs : Array Value} {t : TypeId} (h : Mine w w6 g cs t) (i : Nat) : w6.cell? (addK (addK ⟨g, 0, none⟩ 0) i) = cs[i]? := (mine_cell2 h 0 i).trans (by rw [Nat.zero_add])
/-- what comes back is a policy in memory of its own -/
def RetP (w : World) (main : Tm) (qs : List Qu) (r : Value) (w' : World) : Prop :=
  ∃ (u : V4) (us : List VQ) (a : Option Addr) (c : Nat), r = .tuple #[.agg (parr u a qs.length c), .int .i64 0] ∧ w'.ownsRow w.heap.size 40 5 (.slice a qs.length c) qs.length (flatQ us) ∧
    u.own w' (fun b => w.heap.size ≤ b ∧ (Value.slice a qs.length c).ownBlock ≠ some b) main ∧ QO w' (fun b => w.heap.size ≤ b ∧ (Value.slice a qs.length c).ownBlock ≠ some b) us qs ∧ Chg NoS w w'
theorem PlainP_ok {w : World} {main : Tm} {v : V4} {qs : List Qu} {qa : Option Addr} {qn qc : Nat} (hv : v.is w main) (hq : QsAt w qs qa) (hql : qn = qs.length) :
    Calls Try.prog 14 #[.agg (parr v qa qn qc)] w (endW (fun r w' => if checkS main qs = 0 then RetP w (plainS main) (plainQ qs) r w' else r = .tuple #[.agg (parr ⟨0, 0, 0, none, 0, 0⟩ none 0 0), .int .i64 (checkS main qs)] ∧ Chg NoS w w') (fun _ _ => False)) := by
  refine F14_calls v.op v.f v.n v.b v.m v.c qa qn qc ?_
  delta F14
  have hP0 := mine_alloc (Chg.refl NoS w) (parr v qa qn qc) 29
  have hs1 := size_alloc w (.cells (parr v qa qn qc) 29)
  generalize w.alloc (.cells (parr v qa qn qc) 29) = w1 at *
  have hZ0 := mine_alloc hP0.2.1 #[.int .i8 0, .int .i8 0, .int .u64 0, .slice none 0 0, .slice none 0 0] 29
  have hs2 := size_alloc w1 (.cells #[.int .i8 0, .int .i8 0, .int .u64 0, .slice none 0 0, .slice none 0 0] 29)
  have hP1 := hP0.keep (chg_alloc w1 (.cells #[.int .i8 0, .int .i8 0, .int .u64 0, .slice none 0 0, .slice none 0 0] 29) NoS)
  generalize w1.alloc (.cells #[.int .i8 0, .int .i8 0, .int .u64 0, .slice none 0 0, .slice none 0 0] 29) = w2 at *
  refine get5p hP1 ?_
  refine Calls.then (Check_ok (TVal.keep hP1.2.1 hv) (hq.keep hP1.2.1) hql) ?_
  rintro r w3 ⟨rfl, hc3⟩
  refine ⟨_, rfl, ?_⟩
  have hP3 := hP1.keep hc3
  have hZ3 := hZ0.keep hc3
  by_cases he : checkS main qs = 0
  rotate_left
  · rw [if_pos (by simp [he])]
    refine set5p ⟨0, 0, 0, none, 0, 0⟩ none 0 0 hZ3 trivial ?_
    intro w4 hM4 _
    refine get5p hM4 ?_
    dsimp only
    rw [if_neg he]
    exact ⟨rfl, hM4.2.1⟩
  rw [if_neg (by simp [he])]
  obtain ⟨k1, k2, k3, k4, k5⟩ := check_zero he
  have hlmain : tsize main ≤ 4096 := by simp only [lsize] at k2; omega
  refine ⟨_, (wp_cell hP3 0).trans rfl, _, (wp_cell hP3 1).trans rfl, _, (wp_cell hP3 2).trans rfl, _, _, _, (wp_cell hP3 3).trans rfl, ?_⟩
  have z3 := hc3.size
  refine Calls.then (Plain_ok main false v w3 k4 (TVal.keep hP3.2.1 hv) (by omega)) ?_
  rintro r w4 ⟨u, rfl, hu, hc4⟩
  refine agg4 ?_
  have hP4 := hP3.keep hc4
  have hZ4 := hZ3.keep hc4
  have z4 := hc4.size
  have hul := hu.lt
  -- the policy that comes out
  refine set5p u none 0 0 (mine_alloc (Chg.refl NoS w4) #[.int .i8 0, .int .i8 0, .int .u64 0, .slice none 0 0, .slice none 0 0] 29) trivial ?_
  intro w5 hO5 _
  have hc5 := hO5.2.1
  have hP5 := hP4.keep hc5
  have hZ5 := hZ4.keep hc5
  have hltO := lt_of_blk hO5.1
  have z5 := hc5.size
  refine ⟨_, _, _, (mine_cell hP5 4).trans rfl, ?_⟩
  have hO5' : Mine w2 w5 w4.heap.size (parr u none 0 0) 29 := ⟨hO5.1, ((hc3.trans hc4).trans hc5), by omega⟩
  refine ⟨fun s w6 => ∃ (j : Nat) (a : Option Addr) (c : Nat) (us : List VQ), s = j ∧ j ≤ qn ∧ Mine w2 w6 w4.heap.size (parr u a j c) 29 ∧ w6.ownsRow (w4.heap.size + 1) 40 5 (.slice a j c) j (flatQ us) ∧ QO w6 (fun b => w2.heap.size ≤ b ∧ b < w6.heap.size ∧ b ≠ w4.heap.size ∧ (Value.slice a j c).ownBlock ≠ some b) us (plainQ (qs.take j)) ∧ u.own w6 (fun b => w2.heap.size ≤ b ∧ b < w4.heap.size) (plainS main), fun s _ => (qn - s).toNat,
    ⟨0, ⟨rfl, trivial⟩, 0, none, 0, [], rfl, by omega, hO5', own_nil' _ _ _ _, .nil, (hul.keepN hc5).mono fun b hb => ⟨by omega, hb.2⟩⟩, ?_⟩
  rintro s w6 ⟨j, a, c, us, rfl, hj, hO6, ho6, hQ6, hu6⟩ _
  have hc26 := hO6.2.1
  have hw26 : Chg NoS w w6 := hP1.2.1.trans hc26
  have hP6 := hP1.keep hc26
  have hZ6 := hZ0.keep hc26
  have hlt6 := lt_of_blk hO6.1
  by_cases hlt : (j : Int) < qn
  · rw [if_pos (by simpa using hlt)]
    have hjq : j < qs.length := by omega
    obtain ⟨A, q, rfl, q0, q1, q2, q3, q4, hqv⟩ := hq.cells (List.getElem?_eq_getElem hjq)
    rw [wSome_some]
    refine ⟨by omega, by omega, _, cell_keep q0 hw26, _, cell_keep q1 hw26, _, cell_keep q2 hw26, _, cell_keep q3 hw26, _, _, _, cell_keep q4 hw26, ?_⟩
    refine setQ (mine_alloc (Chg.refl NoS w6) _ _) ?_
    intro w7 hM7
    have hc7 := hM7.2.1
    have hO7 := hO6.keep hc7
    have hc8 := chg_drew w7 NoS
    have hO8 := hO7.keep hc8
    have hM8 := hM7.keep hc8
    refine ⟨NoS, fun x => x, ?_⟩
    generalize w7.drew = w8 at *
    refine ⟨_, _, _, (mine_cell hO8 4).trans rfl, fun x => x, _, (mine_cell hM8 0).trans rfl, fun x => x, _, (mine_cell2 hM8 1 0).trans rfl, _, (mine_cell2 hM8 1 1).trans rfl, _, (mine_cell2 hM8 1 2).trans rfl, _, _, _, (mine_cell2 hM8 1 3).trans rfl, ?_⟩
    have hc68 := hc7.trans hc8
    obtain ⟨q', hq', hqr⟩ := qAll_right (Nat.le_refl _) k5 j hjq
    rw [List.getElem?_eq_getElem hjq] at hq'
    cases hq'
    have hqsz : tsize qs[j].2 ≤ 4096 := by
      have h1 : tsize qs[j].2 ≤ lsize (preds qs) := tsize_le (List.mem_map.2 ⟨qs[j], List.getElem_mem hjq, rfl⟩)
      simp only [lsize] at k2
      omega
    refine Calls.then (Plain_ok qs[j].2 true q w8 hqr (hqv.keep (hw26.trans hc68)) (by omega)) ?_
    rintro r w9 ⟨p, rfl, hp, hc9⟩
    refine agg4 ?_
    have hb10 := blk_alloc w9 (.cells #[.string qs[j].1, .int .i8 p.op, .int .i8 p.f, .int .u64 p.n, .slice p.b p.m p.c] 40)
    have hc10 := chg_alloc w9 (.cells #[.string qs[j].1, .int .i8 p.op, .int .i8 p.f, .int .u64 p.n, .slice p.b p.m p.c] 40) NoS
    have hk9 : Kept NoS w8 w9 := ⟨hc9.size, fun b hb _ => hc9.block b hb (fun x => x)⟩
    have hk10 : Kept NoS w8 (w9.alloc (.cells #[.string qs[j].1, .int .i8 p.op, .int .i8 p.f, .int .u64 p.n, .slice p.b p.m p.c] 40)) := ⟨(hc9.trans hc10).size, fun b hb _ => (hc9.trans hc10).block b hb (fun x => x)⟩
    refine ⟨hk9, hk10, ?_⟩
    clear hk9 hk10
    generalize w9.alloc (.cells #[.string qs[j].1, .int .i8 p.op, .int .i8 p.f, .int .u64 p.n, .slice p.b p.m p.c] 40) = w10 at *
    have hc610 := (hc68.trans hc9).trans hc10
    have z6 := hc26.size
    have z8 := hc68.size
    have z9 := hc9.size
    have z10 := hc10.size
    refine queries_append (base := w4.heap.size + 1) (us := [(qs[j].1, p)]) (own_none ho6 hc610) rfl (reads_lit hb10) (fun e => by cases e) (by omega) (by omega) ?_
    intro a11 c11 w11 ho11 hc11 hb11
    have z11 := hc11.size
    refine ⟨_, _, _, rfl, ?_⟩
    have hold := fun k => own_lt' ho6 (k := k)
    have hO10 := hO6.keep hc610
    have hb := hc11.blk hO10.1 (fun e => by have := (hold w4.heap.size e).2; omega)
    rw [addK_lit, Nat.zero_add]
    refine setW_blk hb (by simp [parr]) rfl fun w12 b12 c12 _ => ?_
    have z12 := c12.size
    have hcar : (parr u a j c).setIfInBounds 4 (.slice a11 (j + 1) c11) = parr u a11 (j + 1) c11 := by simp [parr]
    rw [hcar] at b12
    have hown11 : ∀ k, (Value.slice a11 (j + 1) c11).ownBlock = some k → w4.heap.size + 1 ≤ k := fun k e => (own_lt' ho11 e).2
    refine ⟨(j : Int) + 1, ⟨by rw [i64w _ (by omega) (by omega)], trivial⟩, ⟨j + 1, a11, c11, us ++ [(qs[j].1, p)], by omega, by omega, ⟨b12, ?_, hO6.2.2⟩, own_of_chg ho11 c12 (fun k e e' => by have : k = w4.heap.size := e'; have := hown11 k e; omega), ?_, ?_⟩, by first | omega | (dsimp only; omega)⟩
    · exact ((hc26.trans hc610).trans2 hc11 (fun k hk e => by have := (hold k e).2; omega)).trans2 c12 (fun k hk e => by have : k = w4.heap.size := e; omega)
    · rw [plainQ_take hjq]
      have h1 : QO w12 (fun b => w2.heap.size ≤ b ∧ b < w12.heap.size ∧ b ≠ w4.heap.size ∧ (Value.slice a11 (j + 1) c11).ownBlock ≠ some b) us (plainQ (qs.take j)) :=
        ((hQ6.keepN hc610).keep hc11 (fun b hb e => hb.2.2.2 e) (T := fun b => w2.heap.size ≤ b ∧ b < w6.heap.size ∧ b ≠ w4.heap.size ∧ (Value.slice a j c).ownBlock ≠ some b) (fun b hb => hb)).keep c12 (fun b hb e => hb.2.2.1 e) fun b hb => ⟨hb.1, by omega, hb.2.2.1, fun e => by
          rcases hb11 b e with e' | e'
          · exact hb.2.2.2 e'
          · omega⟩
      have h2 : p.own w12 (fun b => w2.heap.size ≤ b ∧ b < w12.heap.size ∧ b ≠ w4.heap.size ∧ (Value.slice a11 (j + 1) c11).ownBlock ≠ some b) (plainS qs[j].2) :=
        ((hp.lt.keepN hc10).keep hc11 (fun b hb e => by have := (hold b e).1; omega) (T := fun b => w8.heap.size ≤ b ∧ b < w9.heap.size) (fun b hb => hb)).keep c12 (fun b hb e => by have : b = w4.heap.size := e; omega) fun b hb => ⟨by omega, by omega, by omega, fun e => by
          rcases hb11 b e with e' | e'
          · have := (hold b e').1; omega
          · omega⟩
      exact h1.append (.cons h2 .nil)
    · exact ((hu6.keepN hc610).keep hc11 (fun b hb e => by have := (hold b e).2; omega) (T := fun b => w2.heap.size ≤ b ∧ b < w4.heap.size) (fun b hb => hb)).keep c12 (fun b hb e => by have : b = w4.heap.size := e; omega) fun b hb => hb
  · rw [if_neg (by simpa using hlt)]
    have hjn : j = qs.length := by omega
    subst hjn
    rw [List.take_length] at hQ6
    refine get5p hO6 ?_
    refine set5p u a qs.length c hZ6 trivial ?_
    intro w7 hM7 hc7
    refine get5p hM7 ?_
    dsimp only
    rw [if_pos he]
    have hlenQ : (plainQ qs).length = qs.length := by simp [plainQ]
    unfold RetP
    rw [hlenQ]
    refine ⟨u, us, a, c, rfl, own_of_chg (own_base' ho6 (fun k e => by have := (own_lt' ho6 e).2; omega)) hc7 (fun k e e' => by have := (own_lt' ho6 e).2; have : k = w1.heap.size := e'; omega), ?_, ?_, hM7.2.1⟩
    · exact hu6.keep hc7 (fun b hb e => by have : b = w1.heap.size := e; omega) fun b hb => ⟨by omega, fun e => by have := (own_lt' ho6 e).2; omega⟩
    · exact hQ6.keep hc7 (fun b hb e => by have : b = w1.heap.size := e; omega) fun b hb => ⟨by omega, hb.2.2.2⟩
end Go.Proofs.Ytbpckcmejkcciaa.B
