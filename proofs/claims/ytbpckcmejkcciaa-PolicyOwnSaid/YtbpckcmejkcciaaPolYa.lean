/-
  Policies: a row made plain, by the document.
-/
import Derived.Test.YtbpckcmejkcciaaPolY
set_option maxRecDepth 100000
set_option linter.unusedVariables false
set_option linter.unusedSimpArgs false
namespace Go.Proofs.Ytbpckcmejkcciaa.B
open Go Go.Proofs Go.Proofs.YtbpckcmejkcciaaEng

theorem wSome_of {a : Option Addr} {A : Addr} {K : Addr → Prop} (h : a = some A) (hk : K A) : wSome a K := by
  subst h
  exact hk
theorem VO.lt {w : World} {S : Nat → Prop} : ∀ {vs : List V4} {ts : List Tm}, VO w S vs ts → VO w (fun b => S b ∧ b < w.heap.size) vs ts
  | _, _, .nil => .nil
  | _, _, .cons h r => .cons h.lt r.lt
theorem rRow_ok {w : World} {op f n : Int} {ks : List Tm} {v : V4} {p : Bool} {nothing all : Int} {fil : Bool} (ih : ∀ k ∈ ks, RPlain k) (hv : v.is w (.mk op f n ks)) (hr : ∀ k ∈ ks, rightS k p = true) (hsz : lsize ks ≤ 1000000) (hpl : lsize (plainL ks) ≤ lsize ks)
    (hg6 : ∀ x ∈ gatherS op (plainL ks), opS x = 6 → kidsS x ≠ []) :
    Calls Try.prog 46 #[.agg v.arr, .int .i8 nothing, .int .i8 all, .bool fil] w (endW (RetRow w (leftR (gatherS op (plainL ks)) nothing fil) ((gatherS op (plainL ks)).any fun k => isS k all fil)) (fun _ _ => False)) := by
  refine F46_calls v.op v.f v.n v.b v.m v.c nothing all fil ?_
  delta F46
  obtain ⟨ks', e0, hlen, hmc, hcm, hrng, hget⟩ := TVal.parts hv
  injection e0 with e1 e2 e3 e4
  subst e1 e4
  have hP0 := mine_alloc (Chg.refl NoS w) v.arr 26
  have hs1 := size_alloc w (.cells v.arr 26)
  generalize w.alloc (.cells v.arr 26) = w2 at *
  have hlk := lsize_len ks
  have hgl : ∀ j, (gatherS v.op (plainL (ks.take j))).length ≤ 1000000 := fun j => by
    have h1 := lsize_len (gatherS v.op (plainL (ks.take j)))
    have h2 := (gather_size v.op (plainL (ks.take j))).1
    have h3 : lsize (plainL (ks.take j)) ≤ lsize (plainL ks) := by
      rw [plainL_map, plainL_map, List.map_take]
      exact lsize_take_le _ _
    omega
  refine ⟨fun s w3 => ∃ (j : Nat) (us : List V4), s.2.2.2 = j ∧ j ≤ v.m ∧ s.2.1 = (gatherS v.op (plainL (ks.take j))).length ∧ w3.ownsRow w2.heap.size 26 4 (.slice s.1 s.2.1 s.2.2.1) s.2.1 (flat us) ∧ VO w3 (fun b => w2.heap.size ≤ b ∧ b < w3.heap.size ∧ (Value.slice s.1 s.2.1 s.2.2.1).ownBlock ≠ some b) us (gatherS v.op (plainL (ks.take j))) ∧ Chg NoS w2 w3, fun s _ => (v.m - s.2.2.2).toNat,
    ⟨(none, 0, 0, 0), ⟨rfl, rfl, trivial⟩, 0, [], rfl, by omega, rfl, own_nil' _ _ _ _, .nil, Chg.refl _ _⟩, ?_⟩
  rintro ⟨la, ln, lc, i⟩ w3 ⟨j, us, hi, hj, hln, ho3, hV3, hc3⟩ _
  dsimp only at hi hln ho3 hV3 ⊢
  subst hi
  have hP3 := hP0.keep hc3
  have z3 := hc3.size
  refine ⟨_, _, _, (mine_cell hP3 3).trans rfl, ?_⟩
  by_cases hlt : (j : Int) < v.m
  · rw [if_pos (by simpa using hlt)]
    refine ⟨_, _, _, (mine_cell hP3 3).trans rfl, ?_⟩
    have hjk : j < ks.length := by omega
    obtain ⟨A, hA, hT⟩ := get_ofTake hget hjk
    obtain ⟨o', f', n', b', m', c', q0, q1, q2, q3, hq⟩ := hT.keep hP3.2.1
    rw [hA, wSome_some]
    refine ⟨by omega, by omega, _, q0, _, q1, _, q2, _, _, _, q3, ?_⟩
    have hkm := List.getElem_mem hjk
    have htk := tsize_le hkm
    refine Calls.then (ih _ hkm p ⟨o', f', n', b', m', c'⟩ w3 (hr _ hkm) hq (by omega)) ?_
    rintro r w5 ⟨u, rfl, hu, hc5⟩
    refine agg4 ?_
    have z5 := hc5.size
    have hul := hu.lt
    refine set4 u (mine_alloc (Chg.refl NoS w5) _ _) rfl ?_
    intro w6 hM6 _
    have hc6 := hM6.2.1
    have z6 := hc6.size
    have hP6 := (hP3.keep hc5).keep hc6
    have hc36 := hc5.trans hc6
    refine ⟨_, (mine_cell hM6 0).trans rfl, _, (mine_cell hP6 0).trans rfl, ?_⟩
    have hgt : gatherS v.op (plainL (ks.take (j + 1))) = gatherS v.op (plainL (ks.take j)) ++ (if opS (plainS ks[j]) = v.op then kidsS (plainS ks[j]) else [plainS ks[j]]) := by
      rw [plainL_take hjk, gather_append]
      simp only [gatherS, List.append_nil]
    have hg1 := hgl (j + 1)
    have hg0 := hgl j
    have hold := fun k => own_lt' ho3 (k := k)
    have hu6 := hul.keepN hc6
    obtain ⟨hop, hum, us2, hV2, hr2⟩ := hu6.kids
    have hlen3 := hV3.len
    have h1 : VO w6 (fun b => w2.heap.size ≤ b ∧ b < w3.heap.size ∧ (Value.slice la ln lc).ownBlock ≠ some b) us (gatherS v.op (plainL (ks.take j))) := hV3.keepN hc36
    by_cases he : u.op = v.op
    · rw [if_pos (by simp [he])]
      rw [if_pos (by rw [← hop]; exact he)] at hgt
      rw [hgt, List.length_append] at hg1
      refine ⟨_, _, _, (mine_cell hM6 3).trans rfl, ?_⟩
      refine terms_append (base := w2.heap.size) (us := us2) (own_none ho3 hc36) (by rw [hV2.len, hum]) hr2 (reads_none hr2 (by rw [hV2.len, hum])) (by omega) (by omega) ?_
      intro a7 c7 w7 ho7 hc7 hb7
      have z7 := hc7.size
      refine ⟨_, _, _, rfl, (a7, ln + u.m, c7, (j : Int) + 1), ⟨rfl, by rw [i64w _ (by omega) (by omega)], trivial⟩, ⟨j + 1, us ++ us2, by dsimp only; omega, by omega, ?_, ho7, ?_, chg_own (hc3.trans hc36) (Nat.le_refl _) (own_none ho3 hc36) hc7⟩, by dsimp only; omega⟩
      · dsimp only
        rw [hgt, List.length_append, hln, hum]
      · rw [hgt]
        exact (h1.keep hc7 (fun b hb e => hb.2.2 e) (T := fun b => w2.heap.size ≤ b ∧ b < w7.heap.size ∧ (Value.slice a7 (ln + u.m) c7).ownBlock ≠ some b) fun b hb => ⟨hb.1, by omega, fun e => by
          rcases hb7 b e with e' | e'
          · exact hb.2.2 e'
          · omega⟩).append (hV2.keep hc7 (fun b hb e => by have := (hold b e).1; omega) fun b hb => ⟨by omega, by omega, fun e => by
          rcases hb7 b e with e' | e'
          · have := (hold b e').1; omega
          · omega⟩)
    · rw [if_neg (by simp [he])]
      rw [if_neg (by rw [← hop]; exact he)] at hgt
      rw [hgt, List.length_append] at hg1
      refine get4 hM6 ?_
      have hb8 := blk_alloc w6 (.cells u.arr 26)
      have hc8 := chg_alloc w6 (.cells u.arr 26) NoS
      generalize w6.alloc (.cells u.arr 26) = w8 at *
      have z8 := hc8.size
      have hc38 := hc36.trans hc8
      have hg1' : (gatherS v.op (plainL (ks.take j))).length + 1 ≤ 1000000 := hg1
      refine terms_append (base := w2.heap.size) (us := [u]) (own_none ho3 hc38) rfl (reads_lit hb8) (fun e => by cases e) (by omega) (by omega) ?_
      intro a7 c7 w7 ho7 hc7 hb7
      have z7 := hc7.size
      refine ⟨_, _, _, rfl, (a7, ln + 1, c7, (j : Int) + 1), ⟨rfl, by rw [i64w _ (by omega) (by omega)], trivial⟩, ⟨j + 1, us ++ [u], by dsimp only; omega, by omega, ?_, ho7, ?_, chg_own (hc3.trans hc38) (Nat.le_refl _) (own_none ho3 hc38) hc7⟩, by dsimp only; omega⟩
      · dsimp only
        rw [hgt, List.length_append, hln]
        rfl
      · rw [hgt]
        exact ((h1.keepN hc8).keep hc7 (fun b hb e => hb.2.2 e) (T := fun b => w2.heap.size ≤ b ∧ b < w7.heap.size ∧ (Value.slice a7 (ln + 1) c7).ownBlock ≠ some b) fun b hb => ⟨hb.1, by omega, fun e => by
          rcases hb7 b e with e' | e'
          · exact hb.2.2 e'
          · omega⟩).append (.cons ((hu6.keepN hc8).keep hc7 (fun b hb e => by have := (hold b e).1; omega) fun b hb => ⟨by omega, by omega, fun e => by
          rcases hb7 b e with e' | e'
          · have := (hold b e').1; omega
          · omega⟩) .nil)
  rw [if_neg (by simpa using hlt)]
  have hjm : j = ks.length := by omega
  have hgl0 := hgl j
  rw [hjm, List.take_length] at hV3 hln hgl0
  have hVg : VO w3 (fun b => w2.heap.size ≤ b) us (gatherS v.op (plainL ks)) := hV3.mono fun b hb => hb.1
  have hgr := own_reads' ho3
  generalize hge : gatherS v.op (plainL ks) = g at *
  subst hln
  -- what is left
  refine ⟨fun s w5 => ∃ (j : Nat) (us : List V4), s.2.2.2.2 = j ∧ j ≤ g.length ∧ s.2.1 = (leftR (g.take j) nothing fil).length ∧ s.2.2.2.1 = ((g.take j).any fun k => isS k all fil) ∧ w5.ownsRow w3.heap.size 26 4 (.slice s.1 s.2.1 s.2.2.1) s.2.1 (flat us) ∧ VO w3 (fun b => w2.heap.size ≤ b) us (leftR (g.take j) nothing fil) ∧ Chg NoS w3 w5, fun s _ => (g.length - s.2.2.2.2).toNat,
    ⟨(none, 0, 0, false, 0), ⟨rfl, rfl, rfl, trivial⟩, 0, [], rfl, by omega, rfl, rfl, own_nil' _ _ _ _, .nil, Chg.refl _ _⟩, ?_⟩
  rintro ⟨la', ln', lc', fnd, i'⟩ w5 ⟨j', ls, hi, hj', hln, hfnd, ho5, hV5, hc5⟩ _
  dsimp only at hi hln hfnd ho5 ⊢
  subst hi
  have z5 := hc5.size
  by_cases hlt' : (j' : Int) < g.length
  · rw [if_pos (by simpa using hlt')]
    have hjg : j' < g.length := by omega
    obtain ⟨u, hu, hown⟩ := hVg.get j' _ (List.getElem?_eq_getElem hjg)
    have hll := leftR_take (nothing := nothing) (fil := fil) hjg
    have hl1 := leftR_len (g.take (j' + 1)) nothing fil
    have hl0 := leftR_len (g.take j') nothing fil
    have hlen5 := hV5.len
    rw [List.length_take] at hl1 hl0
    have h6 := hg6 _ (List.getElem_mem hjg)
    have hany : ((g.take (j' + 1)).any fun k => isS k all fil) = (fnd || isS g[j'] all fil) := by
      rw [take_snoc hjg, List.any_append, ← hfnd]
      simp
    -- the second half: is it one that says nothing?
    have second : ∀ (w6 : World), Chg NoS w5 w6 → ∃ A, la = some A ∧ w6.cell? (addK (addK A (j' * 4)) 0) = some (.int .i8 u.op) ∧ w6.cell? (addK (addK A (j' * 4)) 1) = some (.int .i8 u.f) ∧ w6.cell? (addK (addK A (j' * 4)) 2) = some (.int .u64 u.n) ∧ w6.cell? (addK (addK A (j' * 4)) 3) = some (.slice u.b u.m u.c) := fun w6 h => reads4 (reads_keep hgr (hc5.trans h)) hu
    by_cases hff : fnd = false
    · rw [if_pos hff]
      obtain ⟨A1, hA1, q0, q1, q2, q3⟩ := second w5 (Chg.refl _ _)
      refine ⟨by omega, by omega, wSome_of hA1 ⟨_, q0, _, q1, _, q2, _, _, _, q3, ?_⟩⟩
      refine Calls.then (rIs_ok (op := all) (fil := fil) (hown.keepN hc5).is h6) ?_
      rintro r w6 ⟨rfl, hc6⟩
      have z6 := hc6.size
      refine ⟨_, rfl, ?_⟩
      obtain ⟨A, hA, p0, p1, p2, p3⟩ := second w6 hc6
      refine ⟨by omega, by omega, wSome_of hA ⟨_, p0, _, p1, _, p2, _, _, _, p3, ?_⟩⟩
      refine Calls.then (rIs_ok (op := nothing) (fil := fil) (hown.keepN (hc5.trans hc6)).is h6) ?_
      rintro r w7 ⟨rfl, hc7⟩
      have z7 := hc7.size
      have hc57 := hc6.trans hc7
      have z57 := hc57.size
      refine ⟨_, rfl, ?_⟩
      by_cases hn : isS g[j'] nothing fil = true
      · rw [if_neg (by simp [hn])]
        rw [if_pos hn, List.append_nil] at hll
        exact ⟨(la', ln', lc', isS g[j'] all fil, (j' : Int) + 1), ⟨rfl, rfl, by rw [i64w _ (by omega) (by omega)], trivial⟩, ⟨j' + 1, ls, by dsimp only; omega, by omega, by dsimp only; rw [hll]; exact hln, by dsimp only; rw [hany, hff]; rfl, own_none ho5 hc57, by rw [hll]; exact hV5, hc5.trans hc57⟩, by dsimp only; omega⟩
      · rw [if_pos (by simp [hn])]
        rw [if_neg hn] at hll
        obtain ⟨A2, hA2, t0, t1, t2, t3⟩ := second w7 hc57
        refine ⟨by omega, by omega, wSome_of hA2 ⟨_, t0, _, t1, _, t2, _, _, _, t3, ?_⟩⟩
        have hb9 := blk_alloc w7 (.cells u.arr 26)
        have hc9 := chg_alloc w7 (.cells u.arr 26) NoS
        generalize w7.alloc (.cells u.arr 26) = w9 at *
        have z9 := hc9.size
        have hc59 := hc57.trans hc9
        refine terms_append (base := w3.heap.size) (us := [u]) (own_none ho5 hc59) rfl (reads_lit hb9) (fun e => by cases e) (by omega) (by omega) ?_
        intro a10 c10 w10 ho10 hc10 _
        exact ⟨_, _, _, rfl, (a10, ln' + 1, c10, isS g[j'] all fil, (j' : Int) + 1), ⟨rfl, rfl, by rw [i64w _ (by omega) (by omega)], trivial⟩, ⟨j' + 1, ls ++ [u], by dsimp only; omega, by omega, by dsimp only; rw [hll, List.length_append, hln]; rfl, by dsimp only; rw [hany, hff]; rfl, ho10, by rw [hll]; exact hV5.append (.cons hown .nil), chg_own (hc5.trans hc59) (Nat.le_refl _) (own_none ho5 hc59) hc10⟩, by dsimp only; omega⟩
    · rw [if_neg hff]
      have hft : fnd = true := by simpa using hff
      obtain ⟨A, hA, p0, p1, p2, p3⟩ := second w5 (Chg.refl _ _)
      refine ⟨by omega, by omega, wSome_of hA ⟨_, p0, _, p1, _, p2, _, _, _, p3, ?_⟩⟩
      refine Calls.then (rIs_ok (op := nothing) (fil := fil) (hown.keepN (hc5.trans (Chg.refl NoS w5))).is h6) ?_
      rintro r w7 ⟨rfl, hc7⟩
      have z7 := hc7.size
      have hc57 := (Chg.refl NoS w5).trans hc7
      have z57 := hc57.size
      refine ⟨_, rfl, ?_⟩
      by_cases hn : isS g[j'] nothing fil = true
      · rw [if_neg (by simp [hn])]
        rw [if_pos hn, List.append_nil] at hll
        exact ⟨(la', ln', lc', true, (j' : Int) + 1), ⟨rfl, rfl, by rw [i64w _ (by omega) (by omega)], trivial⟩, ⟨j' + 1, ls, by dsimp only; omega, by omega, by dsimp only; rw [hll]; exact hln, by dsimp only; rw [hany, hft]; rfl, own_none ho5 hc57, by rw [hll]; exact hV5, hc5.trans hc57⟩, by dsimp only; omega⟩
      · rw [if_pos (by simp [hn])]
        rw [if_neg hn] at hll
        obtain ⟨A2, hA2, t0, t1, t2, t3⟩ := second w7 hc57
        refine ⟨by omega, by omega, wSome_of hA2 ⟨_, t0, _, t1, _, t2, _, _, _, t3, ?_⟩⟩
        have hb9 := blk_alloc w7 (.cells u.arr 26)
        have hc9 := chg_alloc w7 (.cells u.arr 26) NoS
        generalize w7.alloc (.cells u.arr 26) = w9 at *
        have z9 := hc9.size
        have hc59 := hc57.trans hc9
        refine terms_append (base := w3.heap.size) (us := [u]) (own_none ho5 hc59) rfl (reads_lit hb9) (fun e => by cases e) (by omega) (by omega) ?_
        intro a10 c10 w10 ho10 hc10 _
        exact ⟨_, _, _, rfl, (a10, ln' + 1, c10, true, (j' : Int) + 1), ⟨rfl, rfl, by rw [i64w _ (by omega) (by omega)], trivial⟩, ⟨j' + 1, ls ++ [u], by dsimp only; omega, by omega, by dsimp only; rw [hll, List.length_append, hln]; rfl, by dsimp only; rw [hany, hft]; rfl, ho10, by rw [hll]; exact hV5.append (.cons hown .nil), chg_own (hc5.trans hc59) (Nat.le_refl _) (own_none ho5 hc59) hc10⟩, by dsimp only; omega⟩
  rw [if_neg (by simpa using hlt')]
  have hjl : j' = g.length := by omega
  rw [hjl, List.take_length] at hln hV5 hfnd
  subst hln
  subst hfnd
  have hwc := hP0.2.1.size
  exact ⟨la', lc', ls, rfl, own_base' ho5 (fun k e => by have := (own_lt' ho5 e).2; omega), (hV5.lt.keepN hc5).mono fun b hb => ⟨by omega, by omega⟩, (hP3.2.1.trans hc5)⟩
end Go.Proofs.Ytbpckcmejkcciaa.B
