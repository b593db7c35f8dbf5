/-
  Policies: the law PolicyOwn: the walk.
-/
import Derived.Test.YtbpckcmejkcciaaPolZe
set_option maxRecDepth 100000
set_option linter.unusedVariables false
set_option linter.unusedSimpArgs false
namespace Go.Proofs.Ytbpckcmejkcciaa.B
open Go Go.Proofs Go.Proofs.YtbpckcmejkcciaaEng

theorem PolicyOwn_walk (u0 : V4) (qa0 : Option Addr) (qn0 qc0 : Nat) (main0 : Tm) (qs0 : List Qu) (w : World) (i0 : PolIn w u0 qa0 qn0 qc0 main0 qs0) :
    Calls Try.prog 5 #[.agg (parr u0 qa0 qn0 qc0)] w (endW (fun v w' => v = .bool true ∧ Chg NoS w w') (fun _ _ => False)) := by
  refine F5_calls u0.op u0.f u0.n u0.b u0.m u0.c qa0 qn0 qc0 ?_
  delta F5
  have hP := mine_alloc (Chg.refl NoS w) (parr u0 qa0 qn0 qc0) 29
  generalize w.alloc (.cells (parr u0 qa0 qn0 qc0) 29) = w1 at *
  refine get5p hP ?_
  refine Calls.then (Great_ok (i0.main.keep hP.2.1) (i0.row.keep hP.2.1) i0.len i0.most) ?_
  rintro r w3 ⟨rfl, hc3⟩
  have hP3 := hP.keep hc3
  refine ⟨_, rfl, ?_⟩
  have wk : ∀ w', Chg NoS w w' → Calls Try.prog 13 #[] w' (endW (fun v w' => ∃ b, v = .bool b ∧ (Value.bool b = .bool true ∧ Chg NoS w w')) (fun _ _ => False)) := by
    intro w' hc
    refine Calls.then (Wakes_ok w') ?_
    rintro r w7 ⟨rfl, hc7⟩
    exact ⟨_, rfl, rfl, hc.trans hc7⟩
  by_cases hg : 8192 < tsize main0 + lsize (preds qs0)
  · rw [if_pos (by simpa using hg)]
    exact wk w3 hP3.2.1
  rw [if_neg (by simpa using hg)]
  have hql := i0.len
  have hpl := lsize_len (preds qs0)
  have hpl2 : (preds qs0).length = qs0.length := by simp [preds]
  have hwlt := lt_of_blk hP3.1
  refine ⟨_, (wp_cell hP3 0).trans rfl, _, (wp_cell hP3 1).trans rfl, _, (wp_cell hP3 2).trans rfl, _, _, _, (wp_cell hP3 3).trans rfl, ?_⟩
  refine Calls.then (Copied_ok main0 u0 w3 (i0.main.keep hP3.2.1) (by omega)) ?_
  rintro r w4 ⟨u, rfl, hu, hc4⟩
  refine agg4 ?_
  have hP4 := hP3.keep hc4
  have z4 := hc4.size
  have hul := hu.lt
  refine set5p u none 0 0 (mine_alloc (Chg.refl NoS w4) #[.int .i8 0, .int .i8 0, .int .u64 0, .slice none 0 0, .slice none 0 0] 29) trivial ?_
  intro w5 hO5 _
  have hc5 := hO5.2.1
  have hP5 := hP4.keep hc5
  have hltO := lt_of_blk hO5.1
  have z5 := hc5.size
  have hO5' : Mine w w5 w4.heap.size (parr u none 0 0) 29 := ⟨hO5.1, hP5.2.1, by omega⟩
  refine ⟨fun s w6 => ∃ (j : Nat) (a : Option Addr) (c : Nat) (us : List VQ), s = j ∧ j ≤ qn0 ∧ Mine w w6 w4.heap.size (parr u a j c) 29 ∧ Mine w w6 w.heap.size (parr u0 qa0 qn0 qc0) 29 ∧ w6.ownsRow (w4.heap.size + 1) 40 5 (.slice a j c) j (flatQ us) ∧ QO w6 (fun b => w3.heap.size ≤ b ∧ b < w6.heap.size ∧ b ≠ w4.heap.size ∧ (Value.slice a j c).ownBlock ≠ some b) us (qs0.take j) ∧ u.own w6 (fun b => w3.heap.size ≤ b ∧ b < w4.heap.size) main0, fun s _ => (qn0 - s).toNat,
    ⟨0, ⟨rfl, trivial⟩, 0, none, 0, [], rfl, by omega, hO5', hP5, own_nil' _ _ _ _, .nil, hul.keepN hc5⟩, ?_⟩
  rintro s w6 ⟨j, a, c, us, rfl, hj, hO6, hP6, ho6, hQ6, hu6⟩ _
  have hw6 := hP6.2.1
  have hlt6 := lt_of_blk hO6.1
  refine ⟨_, _, _, (mine_cell hP6 4).trans rfl, ?_⟩
  by_cases hlt : (j : Int) < qn0
  · rw [if_pos (by simpa using hlt)]
    have hjq : j < qs0.length := by omega
    obtain ⟨A, q, hA, q0, q1, q2, q3, q4, hqv⟩ := i0.row.cells (List.getElem?_eq_getElem hjq)
    have hc68 := chg_drew w6 NoS
    have hO8 := hO6.keep hc68
    have hP8 := hP6.keep hc68
    have hw8 := hw6.trans hc68
    refine ⟨NoS, fun x => x, ?_⟩
    generalize w6.drew = w8 at *
    have k0 := cell_keep q0 hw8
    have k1 := cell_keep q1 hw8
    have k2 := cell_keep q2 hw8
    have k3 := cell_keep q3 hw8
    have k4 := cell_keep q4 hw8
    have e1 : ∀ i, addK (addK (addK A (j * 5)) 1) i = addK (addK A (j * 5)) (1 + i) := fun i => addK_addK _ _ _
    refine ⟨_, _, _, (mine_cell hO8 4).trans rfl, fun x => x, _, _, _, (mine_cell hP8 4).trans rfl, by omega, by omega, wSome_of hA ⟨fun x => x, _, k0, fun x => x, _, _, _, (mine_cell hP8 4).trans rfl, by omega, by omega, wSome_of hA ⟨fun x => x, _, (by rw [Int.toNat_natCast, e1]; exact k1), _, (by rw [Int.toNat_natCast, e1]; exact k2), _, (by rw [Int.toNat_natCast, e1]; exact k3), _, _, _, (by rw [Int.toNat_natCast, e1]; exact k4), ?_⟩⟩⟩
    have hqsz : tsize qs0[j].2 ≤ 1000000 := by
      have h1 : tsize qs0[j].2 ≤ lsize (preds qs0) := tsize_le (List.mem_map.2 ⟨qs0[j], List.getElem_mem hjq, rfl⟩)
      omega
    refine Calls.then (Copied_ok qs0[j].2 q w8 (hqv.keep hw8) hqsz) ?_
    rintro r w9 ⟨p, rfl, hp, hc9⟩
    refine agg4 ?_
    have hb10 := blk_alloc w9 (.cells #[.string qs0[j].1, .int .i8 p.op, .int .i8 p.f, .int .u64 p.n, .slice p.b p.m p.c] 40)
    have hc10 := chg_alloc w9 (.cells #[.string qs0[j].1, .int .i8 p.op, .int .i8 p.f, .int .u64 p.n, .slice p.b p.m p.c] 40) NoS
    refine ⟨keptN hc9, keptN (hc9.trans hc10), ?_⟩
    generalize w9.alloc (.cells #[.string qs0[j].1, .int .i8 p.op, .int .i8 p.f, .int .u64 p.n, .slice p.b p.m p.c] 40) = w10 at *
    have hc610 := (hc68.trans hc9).trans hc10
    have z8 := hc68.size
    have z9 := hc9.size
    have z10 := hc10.size
    have z6 := hw6.size
    refine queries_append (base := w4.heap.size + 1) (us := [(qs0[j].1, p)]) (own_none ho6 hc610) rfl (reads_lit hb10) (fun e => by cases e) (by omega) (by omega) ?_
    intro a11 c11 w11 ho11 hc11 hb11
    have z11 := hc11.size
    refine ⟨_, _, _, rfl, ?_⟩
    have hold := fun k => own_lt' ho6 (k := k)
    have hO10 := hO6.keep hc610
    have hP10 := hP6.keep hc610
    have hb := hc11.blk hO10.1 (fun e => by have := (hold w4.heap.size e).2; omega)
    have hbP := hc11.blk hP10.1 (fun e => by have := (hold w.heap.size e).2; omega)
    rw [addK_lit, Nat.zero_add]
    refine setW_blk hb (by simp [parr]) rfl fun w12 b12 c12 _ => ?_
    have z12 := c12.size
    have hcar : (parr u a j c).setIfInBounds 4 (.slice a11 (j + 1) c11) = parr u a11 (j + 1) c11 := by simp [parr]
    rw [hcar] at b12
    have hown11 : ∀ k, (Value.slice a11 (j + 1) c11).ownBlock = some k → w4.heap.size + 1 ≤ k := fun k e => (own_lt' ho11 e).2
    have hw12 : Chg NoS w w12 := ((hw6.trans hc610).trans2 hc11 (fun k hk e => by have := (hold k e).2; omega)).trans2 c12 (fun k hk e => by have : k = w4.heap.size := e; omega)
    refine ⟨(j : Int) + 1, ⟨by rw [i64w _ (by omega) (by omega)], trivial⟩, ⟨j + 1, a11, c11, us ++ [(qs0[j].1, p)], by omega, by omega, ⟨b12, hw12, hO6.2.2⟩, ⟨c12.blk hbP (fun e => by have : w.heap.size = w4.heap.size := e; omega), hw12, Nat.le_refl _⟩, own_of_chg ho11 c12 (fun k e e' => by have : k = w4.heap.size := e'; have := hown11 k e; omega), ?_, ?_⟩, by first | omega | (dsimp only; omega)⟩
    · rw [take_snoc hjq]
      have h1 : QO w12 (fun b => w3.heap.size ≤ b ∧ b < w12.heap.size ∧ b ≠ w4.heap.size ∧ (Value.slice a11 (j + 1) c11).ownBlock ≠ some b) us (qs0.take j) :=
        ((hQ6.keepN hc610).keep hc11 (fun b hb e => hb.2.2.2 e) (T := fun b => w3.heap.size ≤ b ∧ b < w6.heap.size ∧ b ≠ w4.heap.size ∧ (Value.slice a j c).ownBlock ≠ some b) (fun b hb => hb)).keep c12 (fun b hb e => hb.2.2.1 e) fun b hb => ⟨hb.1, by omega, hb.2.2.1, fun e => by
          rcases hb11 b e with e' | e'
          · exact hb.2.2.2 e'
          · omega⟩
      have h2 : p.own w12 (fun b => w3.heap.size ≤ b ∧ b < w12.heap.size ∧ b ≠ w4.heap.size ∧ (Value.slice a11 (j + 1) c11).ownBlock ≠ some b) qs0[j].2 :=
        ((hp.lt.keepN hc10).keep hc11 (fun b hb e => by have := (hold b e).1; omega) (T := fun b => w8.heap.size ≤ b ∧ b < w9.heap.size) (fun b hb => hb)).keep c12 (fun b hb e => by have : b = w4.heap.size := e; omega) fun b hb => ⟨by omega, by omega, by omega, fun e => by
          rcases hb11 b e with e' | e'
          · have := (hold b e').1; omega
          · omega⟩
      exact h1.append (.cons h2 .nil)
    · exact ((hu6.keepN hc610).keep hc11 (fun b hb e => by have := (hold b e).2; omega) (T := fun b => w3.heap.size ≤ b ∧ b < w4.heap.size) (fun b hb => hb)).keep c12 (fun b hb e => by have : b = w4.heap.size := e; omega) fun b hb => hb
  rw [if_neg (by simpa using hlt)]
  have hjn : j = qs0.length := by omega
  subst hjn
  rw [List.take_length] at hQ6
  have hmI := hu6.is
  have hmQ := hQ6.at (own_reads' ho6)
  have hqm := i0.most
  refine get5p hO6 ?_
  refine Calls.then (PlainP_ok hmI hmQ rfl) ?_
  intro r w7 hr
  -- what was handed over reads as it did
  have last : ∀ w', Chg NoS w6 w' → ∃ x, w'.cell? (addK ⟨w4.heap.size, 0, none⟩ 0) = some (.int .i8 x) ∧ ∃ x1, w'.cell? (addK ⟨w4.heap.size, 0, none⟩ 1) = some (.int .i8 x1) ∧ ∃ x2, w'.cell? (addK ⟨w4.heap.size, 0, none⟩ 2) = some (.int .u64 x2) ∧ ∃ a n c, w'.cell? (addK ⟨w4.heap.size, 0, none⟩ 3) = some (.slice a n c) ∧ ∃ a1 n1 c1, w'.cell? (addK ⟨w4.heap.size, 0, none⟩ 4) = some (.slice a1 n1 c1) ∧
      ∃ y, w'.cell? (addK ⟨w.heap.size, 0, none⟩ 0) = some (.int .i8 y) ∧ ∃ y1, w'.cell? (addK ⟨w.heap.size, 0, none⟩ 1) = some (.int .i8 y1) ∧ ∃ y2, w'.cell? (addK ⟨w.heap.size, 0, none⟩ 2) = some (.int .u64 y2) ∧ ∃ a2 n2 c2, w'.cell? (addK ⟨w.heap.size, 0, none⟩ 3) = some (.slice a2 n2 c2) ∧ ∃ a3 n3 c3, w'.cell? (addK ⟨w.heap.size, 0, none⟩ 4) = some (.slice a3 n3 c3) ∧
      Calls Try.prog 16 #[.agg #[.int .i8 x, .int .i8 x1, .int .u64 x2, .slice a n c, .slice a1 n1 c1], .agg #[.int .i8 y, .int .i8 y1, .int .u64 y2, .slice a2 n2 c2, .slice a3 n3 c3]] w' (endW (fun v w' => ∃ b, v = .bool b ∧
        if b = true then Calls Try.prog 13 #[] w' (endW (fun v w' => ∃ b, v = .bool b ∧ (Value.bool b = .bool true ∧ Chg NoS w w')) (fun _ _ => False)) else (Value.bool false = .bool true ∧ Chg NoS w w')) (fun _ _ => False)) := by
    intro w' hc
    have hO := hO6.keep hc
    have hPP := hP6.keep hc
    refine get5p hO (get5p hPP ?_)
    refine Calls.then (Policies_ok (hmI.keep hc) (i0.main.keep hPP.2.1) (hmQ.keep hc) (i0.row.keep hPP.2.1) rfl i0.len (by omega)) ?_
    rintro r w9 ⟨b, rfl, hbb, hc9⟩
    refine ⟨_, rfl, ?_⟩
    rw [if_pos (hbb.2 ⟨rfl, rfl⟩)]
    exact wk w9 (hPP.2.1.trans hc9)
  by_cases he : checkS main0 qs0 = 0
  rotate_left
  · rw [if_neg he] at hr
    obtain ⟨rfl, hc7⟩ := hr
    refine tup5 ?_
    refine set5p ⟨0, 0, 0, none, 0, 0⟩ none 0 0 (mine_alloc (Chg.refl NoS w7) _ _) trivial ?_
    intro w8 hM8 _
    rw [if_pos (by simp [he])]
    exact last w8 (hc7.trans hM8.2.1)
  rw [if_pos he] at hr
  have hlenQ : (plainQ qs0).length = qs0.length := by simp [plainQ]
  obtain ⟨ub, ubs, ab, cb, rfl, hob, hub, hqb, hc7⟩ := hr
  rw [hlenQ] at hob hub hqb ⊢
  refine tup5 ?_
  refine set5p ub ab _ cb (mine_alloc (Chg.refl NoS w7) _ _) trivial ?_
  intro w8 hA8 _
  have hc8 := hA8.2.1
  have z7 := hc7.size
  have z8 := lt_of_blk hA8.1
  rw [if_neg (by simp)]
  refine ⟨_, (wp_cell hA8 0).trans rfl, _, (wp_cell hA8 1).trans rfl, _, (wp_cell hA8 2).trans rfl, _, _, _, (wp_cell hA8 3).trans rfl, ?_⟩
  generalize hSx : (fun b => (w6.heap.size ≤ b ∧ (Value.slice ab qs0.length cb).ownBlock ≠ some b) ∧ b < w7.heap.size) = Sx
  have hSd : ∀ b, Sx b ↔ (w6.heap.size ≤ b ∧ (Value.slice ab qs0.length cb).ownBlock ≠ some b) ∧ b < w7.heap.size := fun b => by rw [← hSx]
  have hub8 : ub.own w8 Sx (plainS main0) := (hub.lt.keepN hc8).mono fun b hb => (hSd b).2 hb
  refine Calls.then (Spoil_ok (S := Sx) _ (plainS main0) ub w8 (Nat.le_refl _) hub8 (fun b hb => by have := (hSd b).1 hb; omega)) ?_
  rintro _ w9 ⟨_, hc9, hst9⟩
  have hob8 := own_none hob hc8
  have hA9 := hc9.blk hA8.1 (fun e => by have := (hSd _).1 e; omega)
  have hw69 : Chg NoS w6 w9 := (hc7.trans hc8).trans2 hc9 fun k hk e => by have := (hSd k).1 e; omega
  refine ⟨fun s w' => ∃ (j : Nat) (us' : List VQ), s = j ∧ j ≤ qs0.length ∧ us'.length = ubs.length ∧ (∀ k, j ≤ k → us'[k]? = ubs[k]?) ∧ w'.ownsRow w6.heap.size 40 5 (.slice ab qs0.length cb) qs0.length (flatQ us') ∧ Still Sx w8 w' ∧ w'.heap[w7.heap.size]? = some (.cells (parr ub ab qs0.length cb) 29 (0, 0)) ∧ Chg NoS w6 w' ∧ w8.heap.size ≤ w'.heap.size, fun s _ => (qs0.length - s).toNat,
    ⟨0, ⟨rfl, trivial⟩, 0, ubs, rfl, by omega, rfl, fun _ _ => rfl, own_of_chg hob8 hc9 (fun k e e' => ((hSd k).1 e').1.2 e), hst9, hA9, hw69, hc9.size⟩, ?_⟩
  rintro s w10 ⟨j, us', rfl, hj, hul', hsame, ho10, hst10, hA10, hw610, z10⟩ _
  have e4 : ∀ {w' : World}, w'.heap[w7.heap.size]? = some (.cells (parr ub ab qs0.length cb) 29 (0, 0)) → w'.cell? (addK ⟨w7.heap.size, 0, none⟩ 4) = some (.slice ab qs0.length cb) := fun h => by rw [addK_lit, cell_blk h]; rfl
  refine ⟨_, _, _, e4 hA10, ?_⟩
  by_cases hlt' : (j : Int) < qs0.length
  · rw [if_pos (by simpa using hlt')]
    have hjq : j < qs0.length := by omega
    have hjp : j < (plainQ qs0).length := by omega
    obtain ⟨p, hp, hpo⟩ := hqb.get j _ (List.getElem?_eq_getElem hjp)
    obtain ⟨t', ht', hpo'⟩ := hst10 _ _ ((hpo.lt.keepN hc8).mono (T := Sx) fun b hb => (hSd b).2 hb)
    obtain ⟨A, hA, q0, q1, q2, q3, q4⟩ := readsQ (own_reads' ho10) ((hsame j (Nat.le_refl _)).trans hp)
    have e1 : ∀ i, addK (addK (addK A (j * 5)) 1) i = addK (addK A (j * 5)) (1 + i) := fun i => addK_addK _ _ _
    refine ⟨_, _, _, e4 hA10, by omega, by omega, wSome_of hA ⟨_, (by rw [Int.toNat_natCast, e1]; exact q1), _, (by rw [Int.toNat_natCast, e1]; exact q2), _, (by rw [Int.toNat_natCast, e1]; exact q3), _, _, _, (by rw [Int.toNat_natCast, e1]; exact q4), ?_⟩⟩
    refine Calls.then (Spoil_ok (S := Sx) _ t' p w10 (Nat.le_refl _) hpo' (fun b hb => by have := (hSd b).1 hb; omega)) ?_
    rintro _ w11 ⟨_, hc11, hst11⟩
    have hA11 := hc11.blk hA10 (fun e => by have := (hSd _).1 e; omega)
    have ho11 := own_of_chg ho10 hc11 (fun k e e' => ((hSd k).1 e').1.2 e)
    have z11 := hc11.size
    obtain ⟨a', c', e', _, hform⟩ := own_form ho11
    injection e' with e1' _ e3'
    subst e1'
    subst e3'
    obtain ⟨g, hg⟩ := hform A hA
    subst hg
    subst hA
    have hgb := own_lt' ho11 (k := g) rfl
    have hlq := flatQ_length us'
    have hl11 := ho11.1
    have hgb0 := own_lt' hob (k := g) rfl
    refine ⟨_, _, _, e4 hA11, by omega, by omega, ?_⟩
    rw [wSome_some, Int.toNat_natCast]
    refine rowQ_set ho11 (j := j) (by omega) fun w12 ho12 hc12 z12 => ?_
    refine ⟨(j : Int) + 1, ⟨by rw [i64w _ (by omega) (by omega)], trivial⟩, ⟨j + 1, us'.set j zeroQ, by omega, by omega, by rw [List.length_set]; exact hul', ?_, ho12, ?_, hc12.blk hA11 (fun e => by have : w7.heap.size = g := e; omega), ?_, by omega⟩, by first | omega | (dsimp only; omega)⟩
    · intro k hk
      rw [List.getElem?_set_ne (by omega)]
      exact hsame k (by omega)
    · exact (hst10.trans hst11).trans (still_chg hc12 fun b hb e => by have : b = g := e; subst this; exact ((hSd b).1 hb).1.2 rfl)
    · exact (hw610.trans2 hc11 fun k hk e => by have := (hSd k).1 e; omega).trans2 hc12 fun k hk e => by have : k = g := e; omega
  · rw [if_neg (by simpa using hlt')]
    exact last w10 hw610
end Go.Proofs.Ytbpckcmejkcciaa.B
