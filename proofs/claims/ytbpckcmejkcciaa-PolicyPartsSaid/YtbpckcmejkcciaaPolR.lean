/-
  Policies: a term made plain, by the program.
-/
import Derived.Test.YtbpckcmejkcciaaPolQ
set_option maxRecDepth 100000
set_option linter.unusedVariables false
set_option linter.unusedSimpArgs false
namespace Go.Proofs.Ytbpckcmejkcciaa.B
open Go Go.Proofs Go.Proofs.YtbpckcmejkcciaaEng

theorem kids_of_six {x : Tm} {p : Bool} (h : rightS x p = true) (h6 : opS x = 6) : kidsS x ≠ [] := by
  obtain ⟨op, f, n, ks⟩ := x
  have : op = 6 := h6
  subst this
  obtain ⟨_, _, _, k, rfl, _⟩ := (r_one (by simp)).1 h
  simp [kidsS]
theorem gather_six {op : Int} {ks : List Tm} {p : Bool} (ho : op = 4 ∨ op = 5 ∨ op = 8 ∨ op = 9) (hk : ∀ k ∈ ks, rightS k p = true) : ∀ x ∈ gatherS op (plainL ks), opS x = 6 → kidsS x ≠ [] := by
  intro x hx
  obtain ⟨k, hm, h | h⟩ := mem_gather.1 hx
  · rw [plainL_map] at hm
    obtain ⟨j, hj, rfl⟩ := List.mem_map.1 hm
    have hr := (plain_ok j p (hk j hj)).1
    generalize plainS j = k at *
    obtain ⟨ko, kf, kn, kk⟩ := k
    have h1 : ko = op := h.1
    subst h1
    obtain ⟨_, _, _, _, h3⟩ := (r_row ho).1 hr
    exact kids_of_six (h3 x h.2)
  · rw [plainL_map] at hm
    obtain ⟨j, hj, rfl⟩ := List.mem_map.1 hm
    rw [h.2]
    exact kids_of_six (plain_ok j p (hk j hj)).1
theorem plainL_size {ks : List Tm} {p : Bool} (hk : ∀ k ∈ ks, rightS k p = true) : lsize (plainL ks) ≤ lsize ks := by
  induction ks with
  | nil => simp [plainL]
  | cons k ks ih =>
    have h1 := (plain_size k p (hk k (List.mem_cons_self ..))).1
    have h2 := ih fun j hj => hk j (List.mem_cons_of_mem _ hj)
    simp only [plainL, lsize]
    omega
theorem Plain_ok : ∀ t, PPlain t := by
  intro t
  generalize hs : tsize t = sz
  induction sz using Nat.strongRecOn generalizing t with
  | _ sz ih =>
    subst hs
    intro p v w hr hv hsz
    obtain ⟨ks, rfl, hlen, hmc, hcm, hrng, hget⟩ := TVal.parts hv
    have ih' : ∀ k ∈ ks, PPlain k := fun k hk => ih _ (tsize_kid hk) k rfl
    have hops := r_ops hr
    have hks : lsize ks ≤ 1000000 := by simp only [tsize] at hsz; omega
    have hsl : ∀ {p}, (∀ k ∈ ks, rightS k p = true) → lsize (plainL ks) ≤ lsize ks := fun h => plainL_size h
    have hg6 : ∀ {p}, (v.op = 4 ∨ v.op = 5 ∨ v.op = 8 ∨ v.op = 9) → (∀ k ∈ ks, rightS k p = true) → ∀ x ∈ gatherS v.op (plainL ks), opS x = 6 → kidsS x ≠ [] := fun ho hk => gather_six ho hk
    refine F32_calls v.op v.f v.n v.b v.m v.c ?_
    delta F32
    have hP0 := mine_alloc (Chg.refl NoS w) v.arr 26
    have hs1 := size_alloc w (.cells v.arr 26)
    generalize w.alloc (.cells v.arr 26) = w1 at *
    have hZ0 := mine_alloc hP0.2.1 #[.int .i8 0, .int .i8 0, .int .u64 0, .slice none 0 0] 26
    have hs2 := size_alloc w1 (.cells #[.int .i8 0, .int .i8 0, .int .u64 0, .slice none 0 0] 26)
    have hP1 := hP0.keep (chg_alloc w1 (.cells #[.int .i8 0, .int .i8 0, .int .u64 0, .slice none 0 0] 26) NoS)
    generalize w1.alloc (.cells #[.int .i8 0, .int .i8 0, .int .u64 0, .slice none 0 0] 26) = w2 at *
    refine ⟨_, (mine_cell hP1 0).trans rfl, ?_⟩
    by_cases h4 : v.op = 4
    · rw [if_pos (by simp [h4])]
      obtain ⟨hp, hf0, hn0, hne, hk⟩ := (r_row (by omega)).1 hr
      have hpl : plainS (.mk v.op v.f v.n ks) = rowS v.op (plainL ks) 1 0 bareS := by simp [plainS, h4]
      refine get4 hP1 ?_
      refine Calls.then (Row44_ok ih' (TVal.keep hP1.2.1 hv) hk hks (hsl hk) (hg6 (by omega) hk) (by omega) (by omega)) ?_
      rintro r wA ⟨uA, rfl, huA, hcA⟩
      refine agg4 ?_
      have zA := hcA.size
      refine set4 uA (hZ0.keep hcA) rfl ?_
      intro wB hMB hcB
      refine get4 hMB ?_
      refine ⟨uA, rfl, ?_, hMB.2.1⟩
      rw [hpl]
      exact huA.keep hcB (fun b hb e => by have : b = w1.heap.size := e; omega) fun b hb => by omega
    rw [if_neg (by simp [h4])]
    by_cases h5 : v.op = 5
    · rw [if_pos (by simp [h5])]
      obtain ⟨hp, hf0, hn0, hne, hk⟩ := (r_row (by omega)).1 hr
      have hpl : plainS (.mk v.op v.f v.n ks) = rowS v.op (plainL ks) 0 1 bareS := by simp [plainS, h5]
      refine get4 hP1 ?_
      refine Calls.then (Row44_ok ih' (TVal.keep hP1.2.1 hv) hk hks (hsl hk) (hg6 (by omega) hk) (by omega) (by omega)) ?_
      rintro r wA ⟨uA, rfl, huA, hcA⟩
      refine agg4 ?_
      have zA := hcA.size
      refine set4 uA (hZ0.keep hcA) rfl ?_
      intro wB hMB hcB
      refine get4 hMB ?_
      refine ⟨uA, rfl, ?_, hMB.2.1⟩
      rw [hpl]
      exact huA.keep hcB (fun b hb e => by have : b = w1.heap.size := e; omega) fun b hb => by omega
    rw [if_neg (by simp [h5])]
    by_cases h8 : v.op = 8
    · rw [if_pos (by simp [h8])]
      obtain ⟨hp, hf0, hn0, hne, hk⟩ := (r_row (by omega)).1 hr
      have hpl : plainS (.mk v.op v.f v.n ks) = rowS v.op (plainL ks) 0 (-1) filS := by simp [plainS, h8]
      refine get4 hP1 ?_
      refine Calls.then (Row45_ok ih' (TVal.keep hP1.2.1 hv) hk hks (hsl hk) (hg6 (by omega) hk) (by omega) (by omega)) ?_
      rintro r wA ⟨uA, rfl, huA, hcA⟩
      refine agg4 ?_
      have zA := hcA.size
      refine set4 uA (hZ0.keep hcA) rfl ?_
      intro wB hMB hcB
      refine get4 hMB ?_
      refine ⟨uA, rfl, ?_, hMB.2.1⟩
      rw [hpl]
      exact huA.keep hcB (fun b hb e => by have : b = w1.heap.size := e; omega) fun b hb => by omega
    rw [if_neg (by simp [h8])]
    by_cases h9 : v.op = 9
    · rw [if_pos (by simp [h9])]
      obtain ⟨hp, hf0, hn0, hne, hk⟩ := (r_row (by omega)).1 hr
      have hpl : plainS (.mk v.op v.f v.n ks) = rowS v.op (plainL ks) 1 0 filS := by simp [plainS, h9]
      refine get4 hP1 ?_
      refine Calls.then (Row45_ok ih' (TVal.keep hP1.2.1 hv) hk hks (hsl hk) (hg6 (by omega) hk) (by omega) (by omega)) ?_
      rintro r wA ⟨uA, rfl, huA, hcA⟩
      refine agg4 ?_
      have zA := hcA.size
      refine set4 uA (hZ0.keep hcA) rfl ?_
      intro wB hMB hcB
      refine get4 hMB ?_
      refine ⟨uA, rfl, ?_, hMB.2.1⟩
      rw [hpl]
      exact huA.keep hcB (fun b hb e => by have : b = w1.heap.size := e; omega) fun b hb => by omega
    rw [if_neg (by simp [h9])]
    simp only [opS] at hops
    refine ⟨fun s w3 => s = decide (v.op = 3 ∨ v.op = 6 ∨ v.op = 10) ∧ w3 = w2, ?_, ?_⟩
    rotate_left
    · by_cases h3 : v.op = 3
      · rw [if_pos (by simp [h3])]
        exact ⟨true, ⟨by simp [h3], trivial⟩, by simp [h3], rfl⟩
      rw [if_neg (by simp [h3])]
      by_cases h6 : v.op = 6
      · rw [if_pos (by simp [h6])]
        exact ⟨true, ⟨by simp [h6], trivial⟩, by simp [h6], rfl⟩
      rw [if_neg (by simp [h6])]
      exact ⟨decide (v.op = 10), ⟨by by_cases h10 : v.op = 10 <;> simp [h10], trivial⟩, by simp [h3, h6], rfl⟩
    rintro s w3 ⟨rfl, rfl⟩ _
    by_cases h1 : v.op = 3 ∨ v.op = 6 ∨ v.op = 10
    · rw [if_pos (by simpa using h1)]
      obtain ⟨hp, hf0, hn0, k, rfl, hk⟩ := (r_one h1).1 hr
      have hpl0 : plainS (.mk v.op v.f v.n [k]) = oneS v.op (plainS k) := by
        simp only [plainS]
        rw [if_neg h4, if_neg h5, if_neg h8, if_neg h9, if_pos h1]
        rfl
      obtain ⟨A, hA, hT⟩ := hget 0 k rfl
      obtain ⟨o', f', n', b', m', c', q0, q1, q2, q3, hq⟩ := hT.keep hP1.2.1
      rw [Nat.zero_mul] at q0 q1 q2 q3
      refine ⟨_, _, _, (mine_cell hP1 3).trans rfl, by omega, by simp [hlen], ?_⟩
      rw [hA, wSome_some]
      refine ⟨_, q0, _, q1, _, q2, _, _, _, q3, ?_⟩
      refine Calls.then (ih' k (List.mem_singleton.2 rfl) _ ⟨o', f', n', b', m', c'⟩ w3 hk hq (by simp only [tsize, lsize] at hsz; omega)) ?_
      rintro r w4 ⟨u, rfl, hu, hc4⟩
      have hk' := (plain_ok k _ hk).1
      generalize plainS k = k' at *
      have hko := r_ops hk'
      have hpf : v.op ≠ 3 → p = false := fun h => by cases p with
        | false => rfl
        | true => have := hp.1 rfl; omega
      refine agg4 ?_
      have hPr := hP1.keep hc4
      have hZr := hZ0.keep hc4
      have z4 := hc4.size
      refine set4 u (mine_alloc (Chg.refl NoS w4) _ _) rfl ?_
      intro w5 hM5 _
      have hc5 := hM5.2.1
      have hP5 := hPr.keep hc5
      have hZ6 := hZr.keep hc5
      have z5 := hc5.size
      have hu5 : u.own w5 (fun b => w3.heap.size ≤ b) k' := hu.keepN hc5
      obtain ⟨huo, hum, us, hVk, hrk⟩ := hu5.kids
      refine ⟨fun _ w6 => w6 = w5 ∧ oneS v.op k' = .mk v.op 0 0 [k'], ?_, ?_⟩
      · rintro _ w6 ⟨rfl, hone⟩ _
        refine ⟨_, (mine_cell hP5 0).trans rfl, ?_⟩
        refine get4 hM5 ?_
        have hb7 := blk_alloc w6 (.cells u.arr 26)
        have hc7 := chg_alloc w6 (.cells u.arr 26) NoS
        have hZ7 := hZ6.keep hc7
        generalize w6.alloc (.cells u.arr 26) = w7 at *
        refine set4 ⟨v.op, 0, 0, some ⟨w6.heap.size, 0, none⟩, 1, 1⟩ hZ7 rfl ?_
        intro wB hMB hcB
        refine get4 hMB ?_
        refine ⟨⟨v.op, 0, 0, some ⟨w6.heap.size, 0, none⟩, 1, 1⟩, rfl, ?_, hMB.2.1⟩
        rw [hpl0, hone]
        have hb8 := hcB.blk hb7 (fun e => by have : w6.heap.size = w1.heap.size := e; omega)
        exact own_mk (us := [u]) ⟨hrng.1, hrng.2.1, by omega, by omega, by omega, by omega⟩ rfl (by omega) (by omega) (.cons ((hu5.keepN hc7).keep hcB (fun b hb e => by have : b = w1.heap.size := e; omega) fun b hb => by omega) .nil) (reads_lit hb8) (fun A e => by cases e; exact ⟨Nat.le_trans hP5.2.1.size (Nat.le_refl _), whole_lit hb8⟩)
      refine ⟨fun s w6 => s = decide (v.op = 3 ∧ opS k' = 3) ∧ w6 = w5, ?_, ?_⟩
      rotate_left
      · refine ⟨_, (mine_cell hP5 0).trans rfl, ?_⟩
        by_cases h3 : v.op = 3
        · rw [if_pos (by simp [h3])]
          refine ⟨_, (mine_cell hM5 0).trans rfl, decide (u.op = 3), ⟨by by_cases hh : u.op = 3 <;> simp [hh], trivial⟩, by simp [h3, huo], rfl⟩
        · rw [if_neg (by simp [h3])]
          exact ⟨false, ⟨rfl, trivial⟩, by simp [h3], rfl⟩
      rintro s w6 ⟨rfl, rfl⟩ _
      by_cases h33 : v.op = 3 ∧ opS k' = 3
      · rw [if_pos (by simpa using h33)]
        obtain ⟨ko, kf, kn, kk⟩ := k'
        have : ko = 3 := h33.2
        subst this
        obtain ⟨_, rfl, rfl, j, rfl, hj⟩ := (r_one (by simp)).1 hk'
        match us, hVk with
        | [uA], .cons huA .nil =>
          obtain ⟨B, hB, g0, g1, g2, g3⟩ := reads4 (j := 0) hrk rfl
          rw [Nat.zero_mul] at g0 g1 g2 g3
          refine ⟨_, _, _, (mine_cell hM5 3).trans rfl, by omega, by rw [hum]; simp [kidsS], ?_⟩
          rw [hB, wSome_some]
          refine ⟨_, g0, _, g1, _, g2, _, _, _, g3, ?_⟩
          refine set4 uA hZ6 rfl ?_
          intro wB hMB hcB
          refine get4 hMB ?_
          refine ⟨uA, rfl, ?_, hMB.2.1⟩
          have hone : oneS v.op (.mk 3 0 0 [j]) = j := by simp [oneS, h33.1, opS, kidsS, headS]
          rw [hpl0, hone]
          exact huA.keep hcB (fun b hb e => by have : b = w1.heap.size := e; omega) fun b hb => by omega
      rw [if_neg (by simpa using h33)]
      refine ⟨_, (mine_cell hP5 0).trans rfl, ?_⟩
      by_cases h3 : v.op = 3
      · rw [if_pos (by simp [h3])]
        refine ⟨_, (mine_cell hM5 0).trans rfl, ?_⟩
        have hn3 : opS k' ≠ 3 := fun h => h33 ⟨h3, h⟩
        by_cases hle : opS k' ≤ 1
        · rw [if_pos (by simp [huo, hle])]
          refine ⟨_, (mine_cell hM5 0).trans rfl, ?_⟩
          have hpl : plainS (.mk v.op v.f v.n [k]) = bareS (1 - opS k') := by
            rw [hpl0]
            unfold oneS
            rw [if_neg h33, if_pos ⟨h3, hle⟩]
          have hw8 : IntKind.wrap .i8 (1 - u.op) = 1 - opS k' := by
            rw [huo]
            rcases (show opS k' = 0 ∨ opS k' = 1 by omega) with e | e <;> rw [e] <;> rfl
          rw [hw8]
          refine Calls.then (Bare_ok w6 (op := 1 - opS k') (by omega)) ?_
          rintro r wA ⟨uA, rfl, huA, hcA⟩
          refine agg4 ?_
          have zA := hcA.size
          refine set4 uA (hZ6.keep hcA) rfl ?_
          intro wB hMB hcB
          refine get4 hMB ?_
          refine ⟨uA, rfl, ?_, hMB.2.1⟩
          rw [hpl]
          exact huA.keep hcB (fun b hb e => by have : b = w1.heap.size := e; omega) fun b hb => by omega
        · rw [if_neg (by simp [huo, hle])]
          refine ⟨_, (mine_cell hP5 0).trans rfl, ?_⟩
          rw [if_neg (by simp [h3])]
          refine ⟨_, (mine_cell hP5 0).trans rfl, ?_⟩
          rw [if_neg (by simp [h3])]
          refine ⟨(), trivial, rfl, ?_⟩
          unfold oneS
          rw [if_neg h33, if_neg (fun h => hle h.2), if_neg (by omega), if_neg (by omega)]
      rw [if_neg (by simp [h3])]
      refine ⟨_, (mine_cell hP5 0).trans rfl, ?_⟩
      by_cases h10 : v.op = 10
      · rw [if_pos (by simp [h10])]
        refine ⟨_, (mine_cell hM5 0).trans rfl, ?_⟩
        by_cases hk10 : opS k' = 10
        · rw [if_pos (by simp [huo, hk10])]
          refine get4 hM5 ?_
          refine set4 u hZ6 rfl ?_
          intro wB hMB hcB
          refine get4 hMB ?_
          refine ⟨u, rfl, ?_, hMB.2.1⟩
          have hone : oneS v.op k' = k' := by
            unfold oneS
            rw [if_neg h33, if_neg (by omega), if_pos ⟨h10, hk10⟩]
          rw [hpl0, hone]
          exact hu5.keep hcB (fun b hb e => by have : b = w1.heap.size := e; omega) fun b hb => by omega
        rw [if_neg (by simp [huo, hk10])]
        refine ⟨_, (mine_cell hP5 0).trans rfl, ?_⟩
        rw [if_pos (by simp [h10])]
        refine ⟨_, (mine_cell hM5 0).trans rfl, ?_⟩
        by_cases hk6 : opS k' = 6
        · rw [if_pos (by simp [huo, hk6])]
          have hpl : plainS (.mk v.op v.f v.n [k]) = filS 1 := by
            rw [hpl0]
            unfold oneS
            rw [if_neg h33, if_neg (by omega), if_neg (by omega), if_pos ⟨h10, hk6⟩]
          refine Calls.then (Filter_ok w6 (op := 1) (by omega)) ?_
          rintro r wA ⟨uA, rfl, huA, hcA⟩
          refine agg4 ?_
          have zA := hcA.size
          refine set4 uA (hZ6.keep hcA) rfl ?_
          intro wB hMB hcB
          refine get4 hMB ?_
          refine ⟨uA, rfl, ?_, hMB.2.1⟩
          rw [hpl]
          exact huA.keep hcB (fun b hb e => by have : b = w1.heap.size := e; omega) fun b hb => by omega
        · rw [if_neg (by simp [huo, hk6])]
          refine ⟨(), trivial, rfl, ?_⟩
          unfold oneS
          rw [if_neg h33, if_neg (by omega), if_neg (by omega), if_neg (by omega)]
      · rw [if_neg (by simp [h10])]
        refine ⟨_, (mine_cell hP5 0).trans rfl, ?_⟩
        rw [if_neg (by simp [h10])]
        refine ⟨(), trivial, rfl, ?_⟩
        unfold oneS
        rw [if_neg h33, if_neg (by omega), if_neg (by omega), if_neg (by omega)]
    · rw [if_neg (by simpa using h1)]
      have hnil := r_leaf (by omega) hr
      refine ⟨_, (mine_cell hP1 0).trans rfl, _, (mine_cell hP1 1).trans rfl, _, (mine_cell hP1 2).trans rfl, ?_⟩
      refine set4 ⟨v.op, v.f, v.n, none, 0, 0⟩ hZ0 rfl ?_
      intro wB hMB hcB
      refine get4 hMB ?_
      refine ⟨⟨v.op, v.f, v.n, none, 0, 0⟩, rfl, ?_, hMB.2.1⟩
      have hpl : plainS (.mk v.op v.f v.n ks) = .mk v.op v.f v.n [] := by
        simp only [plainS]
        rw [if_neg h4, if_neg h5, if_neg h8, if_neg h9, if_neg h1]
      rw [hpl]
      exact own_mk (us := []) hrng rfl (by omega) (by omega) .nil (fun j u hu => by simp [flat] at hu) (fun A e => by cases e)
end Go.Proofs.Ytbpckcmejkcciaa.B
