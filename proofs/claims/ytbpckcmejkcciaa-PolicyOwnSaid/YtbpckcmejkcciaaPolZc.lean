/-
  Policies: the law PolicyTwice.
-/
import Derived.Test.YtbpckcmejkcciaaPolZb
set_option maxRecDepth 100000
set_option linter.unusedVariables false
set_option linter.unusedSimpArgs false
namespace Go.Proofs.Ytbpckcmejkcciaa.B
open Go Go.Proofs Go.Proofs.YtbpckcmejkcciaaEng

theorem preds_plain (qs : List Qu) : preds (plainQ qs) = plainL (preds qs) := by
  rw [plainL_map]
  simp [preds, plainQ, List.map_map, Function.comp_def]
theorem names_plain (qs : List Qu) : names (plainQ qs) = names qs := by simp [names, plainQ, List.map_map, Function.comp_def]
theorem plainL_depth {ks : List Tm} {p : Bool} (hk : ∀ k ∈ ks, rightS k p = true) : ldepth (plainL ks) ≤ ldepth ks := by
  induction ks with
  | nil => simp [plainL]
  | cons k ks ih =>
    have h1 := (plain_size k p (hk k (List.mem_cons_self ..))).2
    have h2 := ih fun j hj => hk j (List.mem_cons_of_mem _ hj)
    simp only [plainL, ldepth]
    omega
theorem preds_right {qs : List Qu} (h : qAll qs qs.length = true) : ∀ k ∈ preds qs, rightS k true = true := by
  intro k hk
  obtain ⟨q, hq, rfl⟩ := List.mem_map.1 hk
  obtain ⟨i, hi, e⟩ := List.mem_iff_getElem.1 hq
  obtain ⟨q', h1, h2⟩ := qAll_right (Nat.le_refl _) h i hi
  rw [List.getElem?_eq_getElem hi, e] at h1
  cases h1
  exact h2
theorem qAll_plain {qs : List Qu} : ∀ {j : Nat}, j ≤ qs.length → qAll qs j = true → qAll (plainQ qs) j = true
  | 0, _, _ => rfl
  | j + 1, hj, h => by
    have hl : (plainQ qs).length = qs.length := by simp [plainQ]
    rw [qAll_get (by omega)] at h ⊢
    rw [Bool.and_eq_true] at h ⊢
    refine ⟨qAll_plain (by omega) h.1, ?_⟩
    have e : (plainQ qs)[j] = (qs[j].1, plainS qs[j].2) := by simp [plainQ]
    have e2 : (plainQ qs).take j = plainQ (qs.take j) := by simp [plainQ, List.map_take]
    rw [e, e2, names_plain]
    rw [Bool.and_eq_true] at h ⊢
    exact ⟨h.2.1, (plain_ok _ _ h.2.2).1⟩
theorem check_plain {main : Tm} {qs : List Qu} (h : checkS main qs = 0) : checkS (plainS main) (plainQ qs) = 0 ∧ plainS (plainS main) = plainS main ∧ plainQ (plainQ qs) = plainQ qs ∧ tsize (plainS main) ≤ tsize main ∧ ∀ (j : Nat) (q : Qu), qs[j]? = some q → tsize (plainS q.2) ≤ tsize q.2 := by
  obtain ⟨k1, k2, k3, k4, k5⟩ := check_zero h
  have hp := preds_right k5
  have hm := plain_size main false k4
  have hl := plainL_size hp
  have hd := plainL_depth hp
  have hlen : (plainQ qs).length = qs.length := by simp [plainQ]
  refine ⟨?_, plain_twice k4, ?_, hm.1, fun j q hq => (plain_size q.2 true (hp q.2 (List.mem_map.2 ⟨q, List.mem_of_getElem? hq, rfl⟩))).1⟩
  · unfold checkS
    rw [if_neg (by omega), if_neg, if_pos ⟨(plain_ok main false k4).1, by rw [hlen]; exact qAll_plain (Nat.le_refl _) k5⟩]
    unfold bigS
    rw [preds_plain]
    simp only [lsize, ldepth] at k2 k3 ⊢
    intro hh
    rw [Bool.or_eq_true] at hh
    rcases hh with hh | hh
    · have := of_decide_eq_true hh
      omega
    · have := of_decide_eq_true hh
      omega
  · unfold plainQ
    rw [List.map_map]
    refine List.map_congr_left fun q hq => ?_
    simp only [Function.comp_apply]
    rw [plain_twice (hp q.2 (List.mem_map.2 ⟨q, hq, rfl⟩))]
theorem PolicyTwice_walk (u0 : V4) (qa0 : Option Addr) (qn0 qc0 : Nat) (main0 : Tm) (qs0 : List Qu) (w : World) (i0 : PolIn w u0 qa0 qn0 qc0 main0 qs0) :
    Calls Try.prog 6 #[.agg (parr u0 qa0 qn0 qc0)] w (endW (fun v w' => v = .bool true ∧ Chg NoS w w') (fun _ _ => False)) := by
  refine F6_calls u0.op u0.f u0.n u0.b u0.m u0.c qa0 qn0 qc0 ?_
  delta F6
  have hP := mine_alloc (Chg.refl NoS w) (parr u0 qa0 qn0 qc0) 29
  generalize w.alloc (.cells (parr u0 qa0 qn0 qc0) 29) = w1 at *
  refine get5p hP ?_
  refine Calls.then (PlainP_ok (i0.main.keep hP.2.1) (i0.row.keep hP.2.1) i0.len) ?_
  intro r w2 hr
  by_cases he : checkS main0 qs0 = 0
  rotate_left
  · rw [if_neg he] at hr
    obtain ⟨rfl, hc2⟩ := hr
    refine tup5 ?_
    refine set5p ⟨0, 0, 0, none, 0, 0⟩ none 0 0 (mine_alloc (Chg.refl NoS w2) _ _) trivial ?_
    intro w3 hM3 _
    have hP3 := (hP.keep hc2).keep hM3.2.1
    rw [if_pos (by simp [he])]
    refine get5p hP3 ?_
    refine Calls.then (Check_ok (i0.main.keep hP3.2.1) (i0.row.keep hP3.2.1) i0.len) ?_
    rintro r w4 ⟨rfl, hc4⟩
    refine ⟨_, rfl, ?_⟩
    rw [if_pos (by simp)]
    refine ⟨_, _, _, (mine_cell (hM3.keep hc4) 4).trans rfl, ?_⟩
    rw [if_pos (by simp)]
    refine Calls.then (Wakes_ok w4) ?_
    rintro r w7 ⟨rfl, hc7⟩
    exact ⟨_, rfl, rfl, (hP3.2.1.trans hc4).trans hc7⟩
  rw [if_pos he] at hr
  obtain ⟨c1, c2, c3, c4, c5⟩ := check_plain he
  obtain ⟨k1, k2, k3, k4, k5⟩ := check_zero he
  obtain ⟨u, us, a, c, rfl, ho, hu, hq, hc2⟩ := hr
  have hua := hu.is
  have hqa := hq.at (own_reads' ho)
  have hlenQ : (plainQ qs0).length = qs0.length := by simp [plainQ]
  refine tup5 ?_
  refine set5p u a _ c (mine_alloc (Chg.refl NoS w2) _ _) trivial ?_
  intro w5 hA5 _
  have hc5 := hA5.2.1
  have hP5 := (hP.keep hc2).keep hc5
  rw [if_neg (by simp)]
  refine get5p hA5 ?_
  refine Calls.then (PlainP_ok (hua.keep hc5) (hqa.keep hc5) rfl) ?_
  intro r w6 hr
  rw [if_pos c1, c2, c3] at hr
  obtain ⟨ub, ubs, ab, cb, rfl, hob, hub, hqb, hc6⟩ := hr
  have hubI := hub.is
  have hqbI := hqb.at (own_reads' hob)
  refine tup5 ?_
  refine set5p ub ab _ cb (mine_alloc (Chg.refl NoS w6) _ _) trivial ?_
  intro w7 hB7 _
  have hc7 := hB7.2.1
  have hA7 := (hA5.keep hc6).keep hc7
  have hP7 := (hP5.keep hc6).keep hc7
  have hc8 := chg_drew w7 NoS
  have hA8 := hA7.keep hc8
  have hP8 := hP7.keep hc8
  have hB8 := hB7.keep hc8
  have hqal : ∀ w', Chg NoS w5 w' → QsAt w' (plainQ qs0) a := fun w' h => hqa.keep (hc5.trans h)
  refine ⟨fun _ w9 => Chg NoS w7 w9, ?_, NoS, ?_⟩
  rotate_left
  · rw [if_pos (by simp)]
    generalize w7.drew = w8 at *
    have hw58 : Chg NoS w2 w8 := (hc5.trans (hc6.trans hc7)).trans hc8
    refine ⟨fun x => x, get5p hA8 ?_⟩
    refine Calls.then (Check_ok (hua.keep hw58) (hqa.keep hw58) rfl) ?_
    rintro r w9 ⟨rfl, hc9⟩
    refine ⟨_, rfl, ?_⟩
    have hk9 : Kept NoS w8 w9 := keptN hc9
    refine ⟨hk9, ?_⟩
    rw [if_pos (by simp [c1])]
    refine ⟨fun x => x, get5p hA8 ⟨fun x => x, get5p hB8 ?_⟩⟩
    refine Calls.then (Policies_ok (hua.keep (hw58.trans hc9)) (hubI.keep ((hc7.trans hc8).trans hc9)) (hqa.keep (hw58.trans hc9)) (hqbI.keep ((hc7.trans hc8).trans hc9)) rfl rfl (by rw [hlenQ, ← i0.len]; exact i0.most)) ?_
    rintro r w10 ⟨b, rfl, hbb, hc10⟩
    have hbt : b = true := hbb.2 ⟨rfl, rfl⟩
    refine ⟨_, rfl, keptN (hc9.trans hc10), ?_⟩
    rw [if_pos (by simp [hbt])]
    refine ⟨fun x => x, _, (wp_cell hA8 0).trans rfl, _, (wp_cell hA8 1).trans rfl, _, (wp_cell hA8 2).trans rfl, _, _, _, (wp_cell hA8 3).trans rfl, ?_⟩
    refine ⟨fun x => x, _, (wp_cell hP8 0).trans rfl, _, (wp_cell hP8 1).trans rfl, _, (wp_cell hP8 2).trans rfl, _, _, _, (wp_cell hP8 3).trans rfl, ?_⟩
    have h810 := hc9.trans hc10
    refine Calls.then (LSize_ok (plainS main0) u w10 0 (hua.keep (hw58.trans h810)) (by omega)) ?_
    rintro r w11 ⟨rfl, hc11⟩
    refine ⟨_, rfl, keptN (h810.trans hc11), ?_⟩
    refine Calls.then (LSize_ok main0 u0 w11 0 (i0.main.keep (hP8.2.1.trans (h810.trans hc11))) (by omega)) ?_
    rintro r w12 ⟨rfl, hc12⟩
    have h812 := (h810.trans hc11).trans hc12
    refine ⟨_, rfl, keptN h812, ?_⟩
    rw [if_pos (by simp; omega)]
    refine ⟨fun x => x, _, _, _, (mine_cell hA8 4).trans rfl, fun x => x, _, _, _, (mine_cell hP8 4).trans rfl, ?_⟩
    rw [if_neg (by simp [hlenQ, i0.len])]
    exact ⟨(), trivial, hc8.trans h812⟩
  · rintro _ w11 h11 _
    refine ⟨fun s w12 => ∃ j : Nat, s = j ∧ j ≤ qs0.length ∧ Chg NoS w7 w12, fun s _ => (qs0.length - s).toNat, ⟨0, ⟨rfl, trivial⟩, 0, rfl, by omega, h11⟩, ?_⟩
    rintro s w12 ⟨j, rfl, hj, h12⟩ _
    have hA12 := hA7.keep h12
    have hP12 := hP7.keep h12
    refine ⟨_, _, _, (mine_cell hA12 4).trans rfl, ?_⟩
    by_cases hlt : (j : Int) < (plainQ qs0).length
    · rw [if_pos (by simpa using hlt)]
      have hjq : j < qs0.length := by omega
      have hjp : j < (plainQ qs0).length := by omega
      have hc13 := chg_drew w12 NoS
      have hA13 := hA12.keep hc13
      have hP13 := hP12.keep hc13
      have h513 : Chg NoS w2 w12.drew := (hc5.trans (hc6.trans hc7)).trans (h12.trans hc13)
      generalize w12.drew = w13 at *
      obtain ⟨A, q, hA, q0, q1, q2, q3, q4, hqv⟩ := (hqa.keep h513).cells (List.getElem?_eq_getElem hjp)
      obtain ⟨B, p, hB, p0, p1, p2, p3, p4, hpv⟩ := (i0.row.keep hP13.2.1).cells (List.getElem?_eq_getElem hjq)
      have e0 : (plainQ qs0)[j] = (qs0[j].1, plainS qs0[j].2) := by simp [plainQ]
      rw [e0] at q0 hqv
      have e1 : ∀ (A : Addr) i, addK (addK (addK A (j * 5)) 1) i = addK (addK A (j * 5)) (1 + i) := fun A i => addK_addK _ _ _
      have hl := i0.len
      refine ⟨NoS, fun x => x, _, _, _, (mine_cell hA13 4).trans rfl, by omega, by omega, wSome_of hA ⟨fun x => x, _, q0, fun x => x, _, _, _, (mine_cell hP13 4).trans rfl, by omega, by omega, wSome_of hB ⟨fun x => x, _, p0, ?_⟩⟩⟩
      rw [if_pos (by simp)]
      refine ⟨fun x => x, _, _, _, (mine_cell hA13 4).trans rfl, by omega, by omega, wSome_of hA ⟨fun x => x, _, (by rw [Int.toNat_natCast, e1]; exact q1), _, (by rw [Int.toNat_natCast, e1]; exact q2), _, (by rw [Int.toNat_natCast, e1]; exact q3), _, _, _, (by rw [Int.toNat_natCast, e1]; exact q4), fun x => x, _, _, _, (mine_cell hP13 4).trans rfl, by omega, by omega, wSome_of hB ⟨fun x => x, _, (by rw [Int.toNat_natCast, e1]; exact p1), _, (by rw [Int.toNat_natCast, e1]; exact p2), _, (by rw [Int.toNat_natCast, e1]; exact p3), _, _, _, (by rw [Int.toNat_natCast, e1]; exact p4), ?_⟩⟩⟩
      refine Calls.then (LSize_ok (plainS qs0[j].2) q w13 0 hqv (by omega)) ?_
      rintro r w14 ⟨rfl, hc14⟩
      refine ⟨_, rfl, keptN hc14, ?_⟩
      refine Calls.then (LSize_ok qs0[j].2 p w14 0 (hpv.keep hc14) (by omega)) ?_
      rintro r w15 ⟨rfl, hc15⟩
      refine ⟨_, rfl, ?_⟩
      have := c5 j _ (List.getElem?_eq_getElem hjq)
      rw [if_neg (by simp; omega)]
      exact ⟨(j : Int) + 1, ⟨by rw [i64w _ (by omega) (by have := i0.most; omega)], trivial⟩, ⟨j + 1, rfl, by omega, h12.trans (hc13.trans (hc14.trans hc15))⟩, by first | omega | (dsimp only; omega)⟩
    · rw [if_neg (by simpa using hlt)]
      refine Calls.then (Wakes_ok w12) ?_
      rintro r w13 ⟨rfl, hc13⟩
      exact ⟨_, rfl, rfl, hP12.2.1.trans hc13⟩
end Go.Proofs.Ytbpckcmejkcciaa.B
