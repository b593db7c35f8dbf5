/-
  Policies: what is right, by the program: the walk, its beginning.
-/
import Derived.Test.YtbpckcmejkcciaaPolG
set_option linter.unusedVariables false
set_option linter.unusedSimpArgs false
namespace Go.Proofs.Ytbpckcmejkcciaa.B
open Go Go.Proofs Go.Proofs.YtbpckcmejkcciaaEng

theorem kept_of {w w' : World} (h : Chg NoS w w') : Kept NoS w.drew w' := ⟨h.size, fun b hb _ => h.block b hb (fun x => x)⟩
theorem set5 {w wX : World} {g : Nat} {a b : Int} {c d e : Bool} {K : World → Prop} (h : Mine w wX g #[.int .i64 0, .int .i64 0, .bool false, .bool false, .bool false] 61) (hK : ∀ w6, Mine w w6 g #[.int .i64 a, .int .i64 b, .bool c, .bool d, .bool e] 61 → K w6) :
    setW wX (addK ⟨g, 0, none⟩ 0) (.int .i64 a) fun w2 => setW w2 (addK ⟨g, 0, none⟩ 1) (.int .i64 b) fun w3 => setW w3 (addK ⟨g, 0, none⟩ 2) (.bool c) fun w4 => setW w4 (addK ⟨g, 0, none⟩ 3) (.bool d) fun w5 => setW w5 (addK ⟨g, 0, none⟩ 4) (.bool e) K := by
  simp only [addK_lit, Nat.zero_add]
  refine Mine.set h (by simp) rfl ?_
  intro w1 h1
  refine Mine.set h1 (by simp) rfl ?_
  intro w2 h2
  refine Mine.set h2 (by simp) rfl ?_
  intro w3 h3
  refine Mine.set h3 (by simp) rfl ?_
  intro w4 h4
  refine Mine.set h4 (by simp) rfl ?_
  intro w5 h5
  exact hK w5 h5

set_option maxHeartbeats 1000000 in
set_option maxRecDepth 20000 in
theorem Right_ok : ∀ t, PRight t := by
  intro t
  generalize hs : tsize t = sz
  induction sz using Nat.strongRecOn generalizing t with
  | _ sz ih =>
    intro pred A w ht
    subst hs
    obtain ⟨op, f, n, b, m, c, hc0, hc1, hc2, hc3, hv⟩ := ht
    obtain ⟨ks, rfl, hlen, hmc, hcm, hbd, hk⟩ := hv.parts
    have ihk : ∀ k ∈ ks, PRight k := fun k hk => ih (tsize k) (tsize_kid hk) k rfl
    refine F25_calls (some A) pred ?_
    delta F25
    have hout : (op < 0 ∨ 10 < op) → rightS (.mk op f n ks) pred = false := fun h => by
      simp only [rightS]
      rw [if_neg (by omega), if_neg (by omega), if_neg (by omega), if_neg (by omega), if_neg (by omega), if_neg (by omega), if_neg (by omega), if_neg (by omega)]
    refine ⟨fun _ w' => w' = w ∧ 0 ≤ op ∧ op ≤ 10, ?_, ?_⟩
    rotate_left
    · refine ⟨op, hc0, ?_⟩
      by_cases h0 : op < 0
      · rw [if_neg (by simpa using h0)]
        exact ⟨by rw [hout (.inl h0)], Chg.refl _ _⟩
      rw [if_pos (by simpa using h0)]
      refine ⟨op, hc0, ?_⟩
      by_cases h10 : op > 10
      · rw [if_pos (by simpa using h10)]
        exact ⟨by rw [hout (.inr h10)], Chg.refl _ _⟩
      · rw [if_neg (by simpa using h10)]
        exact ⟨(), trivial, rfl, by omega, by omega⟩
    rintro _ w' ⟨hw', h0, h10⟩ _
    subst hw'
    have hcd := chg_drew w' NoS
    have tail : ∀ (g : Nat) (w6 : World), Mine w' w6 g #[.int .i64 (wantsS op).1, .int .i64 (wantsS op).2.1, .bool (wantsS op).2.2.1, .bool (wantsS op).2.2.2.1, .bool (wantsS op).2.2.2.2] 61 → RT (some A) pred g w6 (fun v w2 => v = .bool (rightS (.mk op f n ks) pred) ∧ Chg NoS w' w2) := fun g w6 hM =>
      RT_ok ihk hc0 hc1 hc2 hc3 hlen (by omega) hbd.2.2.2.2.1 hk h0 h10 hM
    refine ⟨NoS, fun x => x, op, cell_keep hc0 hcd, ?_, ⟨kept_of (hcd.trans (chg_alloc _ _ NoS)), ?_, trivial⟩, trivial⟩
    · refine Calls.then (Table_ok _) ?_
      rintro v w2 ⟨rfl, h2⟩
      have h2w := hcd.trans h2
      refine ⟨tableL, rfl, ?_⟩
      iterate 55 (refine ⟨_, _, rfl, _, rfl, ?_⟩)
      refine ⟨rfl, kept_of h2w, ?_, ⟨kept_of (h2w.trans (chg_alloc _ _ NoS)), ?_, trivial⟩, trivial⟩
      · refine index_table h0 h10 ?_
        refine ⟨_, rfl, _, _, rfl, _, rfl, _, _, rfl, _, rfl, _, _, rfl, _, rfl, _, _, rfl, _, rfl, _, _, rfl, _, rfl, rfl, kept_of h2w, ⟨kept_of (h2w.trans (chg_alloc _ _ NoS)), ?_, trivial⟩, trivial⟩
        refine set5 (mine_alloc h2w _ _) ?_
        intro w6 hM
        exact ⟨kept_of hM.2.1, tail _ _ hM⟩
      · refine index_table h0 h10 ?_
        refine ⟨_, rfl, _, _, rfl, _, rfl, _, _, rfl, _, rfl, _, _, rfl, _, rfl, _, _, rfl, _, rfl, _, _, rfl, _, rfl, rfl, kept_of (h2w.trans (chg_alloc _ _ NoS)), ?_, trivial⟩
        refine set5 (mine_alloc h2w _ _) ?_
        intro w6 hM
        exact ⟨kept_of hM.2.1, tail _ _ hM⟩
    · have hM0 := mine_alloc hcd #[.int .i64 0, .int .i64 0, .bool false, .bool false, .bool false] 61
      refine Calls.then (Table_ok _) ?_
      rintro v w2 ⟨rfl, h2⟩
      have hM2 := hM0.keep h2
      refine ⟨tableL, rfl, ?_⟩
      iterate 55 (refine ⟨_, _, rfl, _, rfl, ?_⟩)
      refine ⟨rfl, kept_of hM2.2.1, ?_, trivial⟩
      refine index_table h0 h10 ?_
      refine ⟨_, rfl, _, _, rfl, _, rfl, _, _, rfl, _, rfl, _, _, rfl, _, rfl, _, _, rfl, _, rfl, _, _, rfl, _, rfl, rfl, kept_of hM2.2.1, ?_, trivial⟩
      refine set5 hM2 ?_
      intro w6 hM
      exact ⟨kept_of hM.2.1, tail _ _ hM⟩
end Go.Proofs.Ytbpckcmejkcciaa.B
