/-
  Policies: a term made plain, by the document: the walk.
-/
import Derived.Test.YtbpckcmejkcciaaPolYa
set_option maxRecDepth 100000
set_option linter.unusedVariables false
set_option linter.unusedSimpArgs false
namespace Go.Proofs.Ytbpckcmejkcciaa.B
open Go Go.Proofs Go.Proofs.YtbpckcmejkcciaaEng

theorem gather_right {op : Int} {ks : List Tm} {p : Bool} (ho : op = 4 ∨ op = 5 ∨ op = 8 ∨ op = 9) (hk : ∀ k ∈ ks, rightS k p = true) : ∀ x ∈ gatherS op (plainL ks), rightS x p = true := by
  intro x hx
  obtain ⟨k, hm, h | h⟩ := mem_gather.1 hx
  · rw [plainL_map] at hm
    obtain ⟨j, hj, rfl⟩ := List.mem_map.1 hm
    have hr := (plain_ok j p (hk j hj)).1
    generalize plainS j = k at *
    obtain ⟨ko, kf, kn, kk⟩ := k
    have h1 : ko = op := h.1
    subst h1
    obtain ⟨_, _, _, _, h3⟩ := (r_row ho).1 hr
    exact h3 x h.2
  · rw [plainL_map] at hm
    obtain ⟨j, hj, rfl⟩ := List.mem_map.1 hm
    rw [h.2]
    exact (plain_ok j p (hk j hj)).1
theorem left_same {g : List Tm} {p : Bool} {x : Int} (h : ∀ k ∈ g, rightS k p = true) (hx : x = 0 ∨ x = 1) : leftR g x (!p) = g.filter (fun k => !saysS k x) := by
  unfold leftR
  refine List.filter_congr fun k hk => ?_
  rw [is_says (h k hk) hx]
theorem any_same {g : List Tm} {p : Bool} {x : Int} (h : ∀ k ∈ g, rightS k p = true) (hx : x = 0 ∨ x = 1) : (g.any fun k => isS k x (!p)) = g.any fun k => saysS k x := by
  rw [Bool.eq_iff_iff, List.any_eq_true, List.any_eq_true]
  constructor
  · rintro ⟨k, hk, h1⟩
    exact ⟨k, hk, by rw [← is_says (h k hk) hx]; exact h1⟩
  · rintro ⟨k, hk, h1⟩
    exact ⟨k, hk, by rw [is_says (h k hk) hx]; exact h1⟩
theorem own_leaf {w : World} {S : Nat → Prop} {v : V4} (h4 : -128 ≤ v.op ∧ v.op ≤ 127 ∧ -128 ≤ v.f ∧ v.f ≤ 127 ∧ 0 ≤ v.n ∧ v.n ≤ 18446744073709551615) (hm : v.m = ([] : List Tm).length) (hmc : v.m ≤ v.c) (hc : v.c ≤ 9223372036854775807) : v.own w S (.mk v.op v.f v.n []) := by
  unfold V4.own
  simp only [TO, KO]
  exact ⟨trivial, trivial, trivial, hm, hmc, hc, h4, trivial⟩
theorem rPlain_ok : ∀ t, RPlain t := by
  intro t
  generalize hs : tsize t = sz
  induction sz using Nat.strongRecOn generalizing t with
  | _ sz ih =>
    subst hs
    intro p v w hr hv hsz
    obtain ⟨ks, rfl, hlen, hmc, hcm, hrng, hget⟩ := TVal.parts hv
    have ih' : ∀ k ∈ ks, RPlain k := fun k hk => ih _ (tsize_kid hk) k rfl
    have hops := r_ops hr
    have hks : lsize ks ≤ 1000000 := by simp only [tsize] at hsz; omega
    have hsl : ∀ {p}, (∀ k ∈ ks, rightS k p = true) → lsize (plainL ks) ≤ lsize ks := fun h => plainL_size h
    have hg6 : ∀ {p}, (v.op = 4 ∨ v.op = 5 ∨ v.op = 8 ∨ v.op = 9) → (∀ k ∈ ks, rightS k p = true) → ∀ x ∈ gatherS v.op (plainL ks), opS x = 6 → kidsS x ≠ [] := fun ho hk => gather_six ho hk
    refine F33_calls v.op v.f v.n v.b v.m v.c ?_
    delta F33
    rw [RetT_O]
    have hP0 := mine_alloc (Chg.refl NoS w) v.arr 26
    have hs1 := size_alloc w (.cells v.arr 26)
    generalize w.alloc (.cells v.arr 26) = w1 at *
    have hZ0 := mine_alloc hP0.2.1 #[.int .i8 0, .int .i8 0, .int .u64 0, .slice none 0 0] 26
    have hs2 := size_alloc w1 (.cells #[.int .i8 0, .int .i8 0, .int .u64 0, .slice none 0 0] 26)
    have hP1 := hP0.keep (chg_alloc w1 (.cells #[.int .i8 0, .int .i8 0, .int .u64 0, .slice none 0 0] 26) NoS)
    generalize w1.alloc (.cells #[.int .i8 0, .int .i8 0, .int .u64 0, .slice none 0 0] 26) = w2 at *
    have hT2 : ∀ b, w2.heap.size ≤ b → b ≠ w1.heap.size ∧ w.heap.size ≤ b := fun b hb => ⟨by omega, by omega⟩
    have hone : v.op = 3 ∨ v.op = 6 ∨ v.op = 10 → ∃ k, ks = [k] ∧ plainS (.mk v.op v.f v.n [k]) = oneS v.op (plainS k) ∧ rightS k (decide (v.op ≠ 10)) = true ∧ tsize k ≤ 1000000 := fun h1 => by
      obtain ⟨hp, hf0, hn0, k, rfl, hk⟩ := (r_one h1).1 hr
      refine ⟨k, rfl, ?_, hk, by simp only [tsize, lsize] at hsz; omega⟩
      simp only [plainS]
      rw [if_neg (by omega), if_neg (by omega), if_neg (by omega), if_neg (by omega), if_pos h1]
      rfl
    have hkid : ∀ k, ks = [k] → ∃ A o' f' n' b' m' c', v.b = some A ∧ w2.cell? (addK (addK A 0) 0) = some (.int .i8 o') ∧ w2.cell? (addK (addK A 0) 1) = some (.int .i8 f') ∧ w2.cell? (addK (addK A 0) 2) = some (.int .u64 n') ∧ w2.cell? (addK (addK A 0) 3) = some (.slice b' m' c') ∧ TVal w2 k o' f' n' b' m' c' := fun k hk => by
      obtain ⟨A, hA, hT⟩ := hget 0 k (by rw [hk]; rfl)
      obtain ⟨o', f', n', b', m', c', q0, q1, q2, q3, hq⟩ := hT.keep hP1.2.1
      rw [Nat.zero_mul] at q0 q1 q2 q3
      exact ⟨A, o', f', n', b', m', c', hA, q0, q1, q2, q3, hq⟩
    refine ⟨_, (mine_cell hP1 0).trans rfl, ?_⟩
    by_cases h3 : v.op = 3
    · rw [if_pos (by simp [h3])]
      obtain ⟨k, rfl, hpl0, hk, hks1⟩ := hone (by omega)
      obtain ⟨A, o', f', n', b', m', c', hA, q0, q1, q2, q3, hq⟩ := hkid k rfl
      refine ⟨_, _, _, (mine_cell hP1 3).trans rfl, by omega, by simp [hlen], wSome_of hA ⟨_, q0, _, q1, _, q2, _, _, _, q3, ?_⟩⟩
      refine Calls.then (ih' k (List.mem_singleton.2 rfl) _ ⟨o', f', n', b', m', c'⟩ w2 hk hq hks1) ?_
      rintro r w4 ⟨u, rfl, hu, hc4⟩
      have hk' := (plain_ok k _ hk).1
      rw [hpl0]
      generalize plainS k = k' at *
      have hko := r_ops hk'
      refine agg4 ?_
      have hZ4 := hZ0.keep hc4
      have z4 := hc4.size
      refine set4 u (mine_alloc (Chg.refl NoS w4) _ _) rfl ?_
      intro w5 hM5 _
      have hc5 := hM5.2.1
      have hZ5 := hZ4.keep hc5
      have z5 := hc5.size
      have hu5 : u.own w5 (fun b => w2.heap.size ≤ b) k' := hu.keepN hc5
      obtain ⟨huo, hum, us, hVk, hrk⟩ := hu5.kids
      refine ⟨_, (mine_cell hM5 0).trans rfl, ?_⟩
      by_cases h33 : opS k' = 3
      · rw [if_pos (by simp [huo, h33])]
        obtain ⟨ko, kf, kn, kk⟩ := k'
        have : ko = 3 := h33
        subst this
        obtain ⟨_, rfl, rfl, j, rfl, hj⟩ := (r_one (by simp)).1 hk'
        match us, hVk with
        | [uA], .cons huA .nil =>
          obtain ⟨B, hB, g0, g1, g2, g3⟩ := reads4 (j := 0) hrk rfl
          rw [Nat.zero_mul] at g0 g1 g2 g3
          refine ⟨_, _, _, (mine_cell hM5 3).trans rfl, by omega, by rw [hum]; simp [kidsS], wSome_of hB ⟨_, g0, _, g1, _, g2, _, _, _, g3, ?_⟩⟩
          have hone : oneS v.op (.mk 3 0 0 [j]) = j := by simp [oneS, h3, opS, kidsS, headS]
          rw [hone]
          exact ret4 hZ5 rfl huA hT2
      rw [if_neg (by simp [huo, h33])]
      by_cases hk1 : opS k' = 1
      · rw [if_pos (by simp [huo, hk1])]
        have hone : oneS v.op k' = bareS 0 := by
          unfold oneS
          rw [if_neg (fun h => h33 h.2), if_pos ⟨h3, by omega⟩, hk1]
          rfl
        rw [hone]
        exact ret4 (u := ⟨0, 0, 0, none, 0, 0⟩) hZ5 rfl (own_bare _ _ (by omega)) hT2
      rw [if_neg (by simp [huo, hk1])]
      by_cases hk0 : opS k' = 0
      · rw [if_pos (by simp [huo, hk0])]
        have hone : oneS v.op k' = bareS 1 := by
          unfold oneS
          rw [if_neg (fun h => h33 h.2), if_pos ⟨h3, by omega⟩, hk0]
          rfl
        rw [hone]
        exact ret4 (u := ⟨1, 0, 0, none, 0, 0⟩) hZ5 rfl (own_bare _ _ (by omega)) hT2
      rw [if_neg (by simp [huo, hk0])]
      have hone : oneS v.op k' = .mk 3 0 0 [k'] := by
        unfold oneS
        rw [if_neg (fun h => h33 h.2), if_neg (by omega), if_neg (by omega), if_neg (by omega), h3]
      rw [hone]
      refine get4 hM5 ?_
      have hb7 := blk_alloc w5 (.cells u.arr 26)
      have hc7 := chg_alloc w5 (.cells u.arr 26) NoS
      have hZ7 := hZ5.keep hc7
      generalize w5.alloc (.cells u.arr 26) = w7 at *
      refine ret4 (u := ⟨3, 0, 0, some ⟨w5.heap.size, 0, none⟩, 1, 1⟩) hZ7 rfl (S := fun b => w2.heap.size ≤ b) ?_ hT2
      exact own_mk (us := [u]) ⟨by omega, by omega, by omega, by omega, by omega, by omega⟩ rfl (by omega) (by omega) (.cons (hu5.keepN hc7) .nil) (reads_lit hb7) (fun A e => by cases e; exact ⟨(show w2.heap.size ≤ w5.heap.size by omega), whole_lit hb7⟩)
    rw [if_neg (by simp [h3])]
    by_cases h4 : v.op = 4
    · rw [if_pos (by simp [h4])]
      obtain ⟨hp, hf0, hn0, hne, hk0⟩ := (r_row (by omega)).1 hr
      have hpp : p = true := by
        cases p with
        | false => have := hp.2 (by omega); cases this
        | true => rfl
      subst hpp
      have hgr := gather_right (op := v.op) (by omega) hk0
      have hl : leftR (gatherS v.op (plainL ks)) 1 false = _ := left_same hgr (by omega)
      have ha : ((gatherS v.op (plainL ks)).any fun k => isS k 0 false) = _ := any_same hgr (by omega)
      refine get4 hP1 ?_
      refine Calls.then (rRow_ok (nothing := 1) (all := 0) (fil := false) ih' (TVal.keep hP1.2.1 hv) hk0 hks (hsl hk0) (hg6 (by omega) hk0)) ?_
      rintro r w4 ⟨a, c, us, rfl, hor, hVr, hc4⟩
      rw [hl] at hor hVr
      rw [hl, ha]
      have hpl : plainS (.mk v.op v.f v.n ks) = rowS v.op (plainL ks) 1 0 bareS := by simp [plainS, h4]
      rw [hpl]
      unfold rowS
      have hcap := own_cap hor
      have hat := own_at hor
      generalize gatherS v.op (plainL ks) = g at *
      have z4 := hc4.size
      have hZ4 := hZ0.keep hc4
      refine tup2 ?_
      by_cases hf : g.any (fun k => saysS k 0) = true
      · rw [if_pos hf, if_pos ⟨by omega, hf⟩]
        exact ret4 (u := ⟨0, 0, 0, none, 0, 0⟩) hZ4 rfl (own_bare _ _ (by omega)) hT2
      · rw [if_neg hf, if_neg (fun h => hf h.2)]
        refine Calls.then (rJoined_ok (op := 4) (vn := ⟨1, 0, 0, none, 0, 0⟩) (tn := bareS 1) (S := fun b => w2.heap.size ≤ b ∧ b < w4.heap.size) (by omega) (hVr.mono fun b hb => ⟨hb.1, hb.2⟩) (own_reads' hor) rfl hcap.1 hcap.2 (fun A hA => ⟨by have := hat A hA; omega, own_whole hor A hA⟩) (own_bare _ _ (by omega)) (fun b hb => hb.2)) ?_
        rintro r wJ ⟨uJ, rfl, huJ, hcJ⟩
        refine agg4 ?_
        rw [h4]
        exact ret4 (hZ4.keep hcJ) rfl huJ fun b hb => ⟨by omega, by omega⟩
    rw [if_neg (by simp [h4])]
    by_cases h5 : v.op = 5
    · rw [if_pos (by simp [h5])]
      obtain ⟨hp, hf0, hn0, hne, hk0⟩ := (r_row (by omega)).1 hr
      have hpp : p = true := by
        cases p with
        | false => have := hp.2 (by omega); cases this
        | true => rfl
      subst hpp
      have hgr := gather_right (op := v.op) (by omega) hk0
      have hl : leftR (gatherS v.op (plainL ks)) 0 false = _ := left_same hgr (by omega)
      have ha : ((gatherS v.op (plainL ks)).any fun k => isS k 1 false) = _ := any_same hgr (by omega)
      refine get4 hP1 ?_
      refine Calls.then (rRow_ok (nothing := 0) (all := 1) (fil := false) ih' (TVal.keep hP1.2.1 hv) hk0 hks (hsl hk0) (hg6 (by omega) hk0)) ?_
      rintro r w4 ⟨a, c, us, rfl, hor, hVr, hc4⟩
      rw [hl] at hor hVr
      rw [hl, ha]
      have hpl : plainS (.mk v.op v.f v.n ks) = rowS v.op (plainL ks) 0 1 bareS := by simp [plainS, h5]
      rw [hpl]
      unfold rowS
      have hcap := own_cap hor
      have hat := own_at hor
      generalize gatherS v.op (plainL ks) = g at *
      have z4 := hc4.size
      have hZ4 := hZ0.keep hc4
      refine tup2 ?_
      by_cases hf : g.any (fun k => saysS k 1) = true
      · rw [if_pos hf, if_pos ⟨by omega, hf⟩]
        exact ret4 (u := ⟨1, 0, 0, none, 0, 0⟩) hZ4 rfl (own_bare _ _ (by omega)) hT2
      · rw [if_neg hf, if_neg (fun h => hf h.2)]
        refine Calls.then (rJoined_ok (op := 5) (vn := ⟨0, 0, 0, none, 0, 0⟩) (tn := bareS 0) (S := fun b => w2.heap.size ≤ b ∧ b < w4.heap.size) (by omega) (hVr.mono fun b hb => ⟨hb.1, hb.2⟩) (own_reads' hor) rfl hcap.1 hcap.2 (fun A hA => ⟨by have := hat A hA; omega, own_whole hor A hA⟩) (own_bare _ _ (by omega)) (fun b hb => hb.2)) ?_
        rintro r wJ ⟨uJ, rfl, huJ, hcJ⟩
        refine agg4 ?_
        rw [h5]
        exact ret4 (hZ4.keep hcJ) rfl huJ fun b hb => ⟨by omega, by omega⟩
    rw [if_neg (by simp [h5])]
    by_cases h6 : v.op = 6
    · rw [if_pos (by simp [h6])]
      obtain ⟨k, rfl, hpl0, hk, hks1⟩ := hone (by omega)
      obtain ⟨A, o', f', n', b', m', c', hA, q0, q1, q2, q3, hq⟩ := hkid k rfl
      refine ⟨_, _, _, (mine_cell hP1 3).trans rfl, by omega, by simp [hlen], wSome_of hA ⟨_, q0, _, q1, _, q2, _, _, _, q3, ?_⟩⟩
      refine Calls.then (ih' k (List.mem_singleton.2 rfl) _ ⟨o', f', n', b', m', c'⟩ w2 hk hq hks1) ?_
      rintro r w4 ⟨u, rfl, hu, hc4⟩
      have hk' := (plain_ok k _ hk).1
      rw [hpl0]
      generalize plainS k = k' at *
      have hko := r_ops hk'
      refine agg4 ?_
      have hZ4 := hZ0.keep hc4
      have z4 := hc4.size
      have hone : oneS v.op k' = .mk 6 0 0 [k'] := by
        unfold oneS
        rw [if_neg (by omega), if_neg (by omega), if_neg (by omega), if_neg (by omega), h6]
      rw [hone]
      have hb7 := blk_alloc w4 (.cells u.arr 26)
      have hc7 := chg_alloc w4 (.cells u.arr 26) NoS
      have hZ7 := hZ4.keep hc7
      generalize w4.alloc (.cells u.arr 26) = w7 at *
      refine ret4 (u := ⟨6, 0, 0, some ⟨w4.heap.size, 0, none⟩, 1, 1⟩) hZ7 rfl (S := fun b => w2.heap.size ≤ b) ?_ hT2
      exact own_mk (us := [u]) ⟨by omega, by omega, by omega, by omega, by omega, by omega⟩ rfl (by omega) (by omega) (.cons (hu.keepN hc7) .nil) (reads_lit hb7) (fun A e => by cases e; exact ⟨(show w2.heap.size ≤ w4.heap.size by omega), whole_lit hb7⟩)
    rw [if_neg (by simp [h6])]
    by_cases h8 : v.op = 8
    · rw [if_pos (by simp [h8])]
      obtain ⟨hp, hf0, hn0, hne, hk0⟩ := (r_row (by omega)).1 hr
      have hpp : p = false := by
        cases p with
        | true => have := hp.1 rfl; omega
        | false => rfl
      subst hpp
      have hgr := gather_right (op := v.op) (by omega) hk0
      have hl : leftR (gatherS v.op (plainL ks)) 0 true = _ := left_same hgr (by omega)
      have ha : ((gatherS v.op (plainL ks)).any fun k => isS k 0 true) = _ := any_same hgr (by omega)
      refine get4 hP1 ?_
      refine Calls.then (rRow_ok (nothing := 0) (all := 0) (fil := true) ih' (TVal.keep hP1.2.1 hv) hk0 hks (hsl hk0) (hg6 (by omega) hk0)) ?_
      rintro r w4 ⟨a, c, us, rfl, hor, hVr, hc4⟩
      rw [hl] at hor hVr
      rw [hl, ha]
      have hpl : plainS (.mk v.op v.f v.n ks) = rowS v.op (plainL ks) 0 (-1) filS := by simp [plainS, h8]
      rw [hpl]
      unfold rowS
      have hcap := own_cap hor
      have hat := own_at hor
      generalize gatherS v.op (plainL ks) = g at *
      have z4 := hc4.size
      have hZ4 := hZ0.keep hc4
      refine tup2 ?_
      rw [if_neg (fun h => by have := h.1; omega)]
      refine Calls.then (rFilter_ok w4 (op := 0) (by omega)) ?_
      rintro r w5 ⟨uF, rfl, huF, hc5⟩
      refine agg4 ?_
      have z5 := hc5.size
      refine Calls.then (rJoined_ok (op := 8) (vn := uF) (tn := filS 0) (S := fun b => w2.heap.size ≤ b ∧ b < w5.heap.size) (by omega) ((hVr.keepN hc5).mono fun b hb => ⟨hb.1, by omega⟩) (reads_keep (own_reads' hor) hc5) rfl hcap.1 hcap.2 (fun A hA => ⟨by have := hat A hA; omega, (own_whole hor A hA).chg hc5 (fun x => x)⟩) (huF.lt.mono fun b hb => ⟨by omega, hb.2⟩) (fun b hb => hb.2)) ?_
      rintro r wJ ⟨uJ, rfl, huJ, hcJ⟩
      refine agg4 ?_
      rw [h8]
      exact ret4 ((hZ4.keep hc5).keep hcJ) rfl huJ fun b hb => ⟨by omega, by omega⟩
    rw [if_neg (by simp [h8])]
    by_cases h9 : v.op = 9
    · rw [if_pos (by simp [h9])]
      obtain ⟨hp, hf0, hn0, hne, hk0⟩ := (r_row (by omega)).1 hr
      have hpp : p = false := by
        cases p with
        | true => have := hp.1 rfl; omega
        | false => rfl
      subst hpp
      have hgr := gather_right (op := v.op) (by omega) hk0
      have hl : leftR (gatherS v.op (plainL ks)) 1 true = _ := left_same hgr (by omega)
      have ha : ((gatherS v.op (plainL ks)).any fun k => isS k 0 true) = _ := any_same hgr (by omega)
      refine get4 hP1 ?_
      refine Calls.then (rRow_ok (nothing := 1) (all := 0) (fil := true) ih' (TVal.keep hP1.2.1 hv) hk0 hks (hsl hk0) (hg6 (by omega) hk0)) ?_
      rintro r w4 ⟨a, c, us, rfl, hor, hVr, hc4⟩
      rw [hl] at hor hVr
      rw [hl, ha]
      have hpl : plainS (.mk v.op v.f v.n ks) = rowS v.op (plainL ks) 1 0 filS := by simp [plainS, h9]
      rw [hpl]
      unfold rowS
      have hcap := own_cap hor
      have hat := own_at hor
      generalize gatherS v.op (plainL ks) = g at *
      have z4 := hc4.size
      have hZ4 := hZ0.keep hc4
      refine tup2 ?_
      by_cases hf : g.any (fun k => saysS k 0) = true
      · rw [if_pos hf, if_pos ⟨by omega, hf⟩]
        refine Calls.then (rFilter_ok w4 (op := 0) (by omega)) ?_
        rintro r w5 ⟨uF, rfl, huF, hc5⟩
        refine agg4 ?_
        exact ret4 (hZ4.keep hc5) rfl huF fun b hb => ⟨by omega, by omega⟩
      · rw [if_neg hf, if_neg (fun h => hf h.2)]
        refine Calls.then (rFilter_ok w4 (op := 1) (by omega)) ?_
        rintro r w5 ⟨uF, rfl, huF, hc5⟩
        refine agg4 ?_
        have z5 := hc5.size
        refine Calls.then (rJoined_ok (op := 9) (vn := uF) (tn := filS 1) (S := fun b => w2.heap.size ≤ b ∧ b < w5.heap.size) (by omega) ((hVr.keepN hc5).mono fun b hb => ⟨hb.1, by omega⟩) (reads_keep (own_reads' hor) hc5) rfl hcap.1 hcap.2 (fun A hA => ⟨by have := hat A hA; omega, (own_whole hor A hA).chg hc5 (fun x => x)⟩) (huF.lt.mono fun b hb => ⟨by omega, hb.2⟩) (fun b hb => hb.2)) ?_
        rintro r wJ ⟨uJ, rfl, huJ, hcJ⟩
        refine agg4 ?_
        rw [h9]
        exact ret4 ((hZ4.keep hc5).keep hcJ) rfl huJ fun b hb => ⟨by omega, by omega⟩
    rw [if_neg (by simp [h9])]
    by_cases h10 : v.op = 10
    · rw [if_pos (by simp [h10])]
      obtain ⟨k, rfl, hpl0, hk, hks1⟩ := hone (by omega)
      obtain ⟨A, o', f', n', b', m', c', hA, q0, q1, q2, q3, hq⟩ := hkid k rfl
      refine ⟨_, _, _, (mine_cell hP1 3).trans rfl, by omega, by simp [hlen], wSome_of hA ⟨_, q0, _, q1, _, q2, _, _, _, q3, ?_⟩⟩
      refine Calls.then (ih' k (List.mem_singleton.2 rfl) _ ⟨o', f', n', b', m', c'⟩ w2 hk hq hks1) ?_
      rintro r w4 ⟨u, rfl, hu, hc4⟩
      have hk' := (plain_ok k _ hk).1
      rw [hpl0]
      generalize plainS k = k' at *
      have hko := r_ops hk'
      refine agg4 ?_
      have hZ4 := hZ0.keep hc4
      have z4 := hc4.size
      refine set4 u (mine_alloc (Chg.refl NoS w4) _ _) rfl ?_
      intro w5 hM5 _
      have hc5 := hM5.2.1
      have hZ5 := hZ4.keep hc5
      have z5 := hc5.size
      have hu5 : u.own w5 (fun b => w2.heap.size ≤ b) k' := hu.keepN hc5
      obtain ⟨huo, hum, us, hVk, hrk⟩ := hu5.kids
      refine ⟨_, (mine_cell hM5 0).trans rfl, ?_⟩
      by_cases hk10 : opS k' = 10
      · rw [if_pos (by simp [huo, hk10])]
        refine get4 hM5 ?_
        have hone : oneS v.op k' = k' := by
          unfold oneS
          rw [if_neg (by omega), if_neg (by omega), if_pos ⟨h10, hk10⟩]
        rw [hone]
        exact ret4 hZ5 rfl hu5 hT2
      rw [if_neg (by simp [huo, hk10])]
      refine ⟨_, (mine_cell hM5 0).trans rfl, ?_⟩
      by_cases hk6 : opS k' = 6
      · rw [if_pos (by simp [huo, hk6])]
        have hone : oneS v.op k' = filS 1 := by
          unfold oneS
          rw [if_neg (by omega), if_neg (by omega), if_neg (by omega), if_pos ⟨h10, hk6⟩]
        rw [hone]
        refine Calls.then (rFilter_ok w5 (op := 1) (by omega)) ?_
        rintro r w6 ⟨uF, rfl, huF, hc6⟩
        refine agg4 ?_
        exact ret4 (hZ5.keep hc6) rfl huF fun b hb => ⟨by omega, by omega⟩
      rw [if_neg (by simp [huo, hk6])]
      have hone : oneS v.op k' = .mk 10 0 0 [k'] := by
        unfold oneS
        rw [if_neg (by omega), if_neg (by omega), if_neg (by omega), if_neg (by omega), h10]
      rw [hone]
      refine get4 hM5 ?_
      have hb7 := blk_alloc w5 (.cells u.arr 26)
      have hc7 := chg_alloc w5 (.cells u.arr 26) NoS
      have hZ7 := hZ5.keep hc7
      generalize w5.alloc (.cells u.arr 26) = w7 at *
      refine ret4 (u := ⟨10, 0, 0, some ⟨w5.heap.size, 0, none⟩, 1, 1⟩) hZ7 rfl (S := fun b => w2.heap.size ≤ b) ?_ hT2
      exact own_mk (us := [u]) ⟨by omega, by omega, by omega, by omega, by omega, by omega⟩ rfl (by omega) (by omega) (.cons (hu5.keepN hc7) .nil) (reads_lit hb7) (fun A e => by cases e; exact ⟨(show w2.heap.size ≤ w5.heap.size by omega), whole_lit hb7⟩)
    rw [if_neg (by simp [h10])]
    simp only [opS] at hops
    have hnil := r_leaf (by omega) hr
    refine get4 hP1 ?_
    have hpl : plainS (.mk v.op v.f v.n ks) = .mk v.op v.f v.n [] := by
      simp only [plainS]
      rw [if_neg h4, if_neg h5, if_neg h8, if_neg h9, if_neg (by omega)]
    rw [hpl]
    subst hnil
    exact ret4 (u := v) hZ0 rfl (own_leaf hrng hlen hmc hcm) hT2
end Go.Proofs.Ytbpckcmejkcciaa.B
