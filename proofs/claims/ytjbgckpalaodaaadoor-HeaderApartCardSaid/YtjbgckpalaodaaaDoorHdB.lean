/-
  header: Check, the program's and the document's.
-/
import Derived.Test.YtjbgckpalaodaaaDoorHdA
set_option maxRecDepth 100000
set_option linter.unusedVariables false
set_option linter.unusedSimpArgs false
namespace Go.Proofs.YtjbgckpalaodaaaDoor.B
open Go Go.Proofs Go.Proofs.YtjbgckpalaodaaaDoorEng

theorem beq_nat (a b : Nat) : ((a : Int) == (b : Int)) = decide (a = b) := by
  by_cases h : a = b
  · subst h; simp
  · have : ¬ (a : Int) = b := by omega
    simp [h, this]
theorem ports_eq {h : HN} (e2 : h 2 = 2048) (e3 : ¬ h 6 = 6) : ((true, (h 6 : Int) == 17) : Bool × Bool) = (decide (h 2 = 2048 ∨ h 2 = 2054), decide (h 2 = 2048 ∧ (h 6 = 6 ∨ h 6 = 17))) := by
  have e17 : ((h 6 : Int) == 17) = decide (h 6 = 17) := beq_nat (h 6) 17
  rw [e17]
  simp [e2, e3]
theorem okH_no {h : HN} (hn : ¬ okH h) : chk h = 10 := by unfold chk; rw [if_neg hn]
theorem okH_yes {h : HN} (hn : okH h) : chk h = 0 := by unfold chk; rw [if_pos hn]
theorem Check_ok (w : World) (h : HN) : Calls Tryd.prog 8 #[.agg (hvs h)] w (endW (fun v w' => v = .int .i64 (chk h) ∧ Chg NoS w w') (fun _ _ => False)) := by
  refine F8_calls _ _ _ _ _ _ _ _ _ _ _ ?_
  delta F8
  have hb := blk_alloc w (.cells (hvs h) 24)
  have hca := chg_alloc w (.cells (hvs h) 24) NoS
  have cell : ∀ {w' : World}, Chg NoS (w.alloc (.cells (hvs h) 24)) w' → ∀ k, k < 11 → w'.cell? (addK ⟨w.heap.size, 0, none⟩ k) = some (.int .u64 (h k)) := fun hc k hk => by
    rw [addK_lit, Nat.zero_add, cell_blk (hc.blk hb fun x => x)]
    exact hvs_at h k hk
  have cell0 := cell (Chg.refl NoS _)
  show ∃ x, World.cell? (w.alloc (.cells (hvs h) 24)) _ = some (.int .u64 x) ∧ _
  refine ⟨_, cell0 0 (by omega), _, cell0 1 (by omega), _, cell0 2 (by omega), _, cell0 3 (by omega), _, cell0 4 (by omega), _, cell0 5 (by omega), _, cell0 6 (by omega), _, cell0 7 (by omega), _, cell0 8 (by omega), _, cell0 9 (by omega), _, cell0 10 (by omega), ?_⟩
  generalize hw0 : w.alloc (.cells (hvs h) 24) = w0 at hb hca cell ⊢
  clear cell0
  generalize hp : w.heap.size = p at hb cell ⊢
  refine ⟨fun s w' => ∃ k : Nat, s = (k : Int) ∧ k ≤ 11 ∧ Chg NoS w0 w' ∧ ∀ f, f < k → h f < 2 ^ wid f, fun s _ => (11 - s).toNat, ⟨0, ⟨rfl, trivial⟩, 0, rfl, by omega, Chg.refl _ _, fun f hf => by omega⟩, ?_⟩
  rintro s w1 ⟨k, rfl, hk, hc, hall⟩ _
  by_cases hlt : k < 11
  · rw [if_pos (by simp; omega)]
    refine ⟨by omega, by omega, by simp; omega, ?_⟩
    have e := hvs_get h k hlt
    have e8 : IntKind.wrap .i8 (k : Int) = (k : Int) := IntWalk.i8_in _ (by omega)
    rw [Int.toNat_natCast, e8]
    refine ⟨(h k : Int), by rw [show (#[Value.int IntKind.u64 (h 0), Value.int IntKind.u64 (h 1), Value.int IntKind.u64 (h 2), Value.int IntKind.u64 (h 3), Value.int IntKind.u64 (h 4), Value.int IntKind.u64 (h 5), Value.int IntKind.u64 (h 6), Value.int IntKind.u64 (h 7), Value.int IntKind.u64 (h 8), Value.int IntKind.u64 (h 9), Value.int IntKind.u64 (h 10)] : Array Value).toList[k]? = some (.int .u64 (h k)) from e], ?_⟩
    refine Calls.then (Fits_ok w1 k (h k)) ?_
    rintro v w2 ⟨rfl, hc2⟩
    refine ⟨_, rfl, ?_⟩
    rw [fitsN_nat hlt]
    by_cases hf : h k < 2 ^ wid k
    · rw [if_neg (by simp [hf])]
      refine ⟨((k + 1 : Nat) : Int), ⟨by rw [i64w _ (by omega) (by omega)]; rfl, trivial⟩, ⟨k + 1, rfl, by omega, hc.trans hc2, fun f hf' => ?_⟩, by dsimp only; omega⟩
      rcases Nat.lt_succ_iff_lt_or_eq.1 hf' with h1 | h1
      · exact hall f h1
      · rw [h1]; exact hf
    · rw [if_pos (by simp [hf])]
      refine ⟨by rw [okH_no]; intro ho; exact hf (ho.1 k hlt), (hca.trans hc).trans hc2⟩
  · rw [if_neg (by simp; omega)]
    have : k = 11 := by omega
    subst this
    have cl := cell hc
    have hcw := hca.trans hc
    have o45 := or_nat (wid_lt48 hall (show 4 < 11 by omega)) (wid_lt48 hall (show 5 < 11 by omega))
    have o78 := or_nat (wid_lt48 hall (show 7 < 11 by omega)) (wid_lt48 hall (show 8 < 11 by omega))
    have yes : okH h → (Value.int .i64 0 : Value) = .int .i64 (chk h) ∧ Chg NoS w w1 := fun ho => ⟨by rw [okH_yes ho], hcw⟩
    have no : ¬ okH h → (Value.int .i64 10 : Value) = .int .i64 (chk h) ∧ Chg NoS w w1 := fun ho => ⟨by rw [okH_no ho], hcw⟩
    refine ⟨fun s w' => w' = w1 ∧ h 2 ≠ 33024 ∧ s = (decide (h 2 = 2048 ∨ h 2 = 2054), decide (h 2 = 2048 ∧ (h 6 = 6 ∨ h 6 = 17))), ?_, by omega, by omega, _, cl 2 (by omega), ?_⟩
    · rintro s w' ⟨rfl, hne, rfl⟩ _
      dsimp only
      repeat' (first
        | refine ite_both (fun _ => ?_) (fun _ => ?_)
        | refine ⟨by omega, by omega, _, cl 2 (by omega), ?_⟩
        | refine ⟨by omega, by omega, _, cl 6 (by omega), ?_⟩
        | (refine ⟨by omega, by omega, _, cl 4 (by omega), by omega, by omega, _, cl 5 (by omega), ?_⟩; rw [o45])
        | (refine ⟨by omega, by omega, _, cl 7 (by omega), by omega, by omega, _, cl 8 (by omega), ?_⟩; rw [o78])
        | (refine yes ?_; simp at *; unfold okH; refine ⟨hall, ?_⟩; omega)
        | (refine no fun ho => ?_; obtain ⟨_, g⟩ := ho; simp at *; omega))
    · refine ite_both (fun e => no fun ho => ?_) (fun e => ?_)
      · obtain ⟨_, g, _⟩ := ho
        simp at e
        omega
      · refine ite_both (fun e2 => ⟨by omega, by omega, _, cl 6 (by omega), ite_both (fun e3 => ⟨by omega, by omega, _, cl 6 (by omega), (_, _), ⟨rfl, rfl, trivial⟩, rfl, ?_, ?_⟩) (fun e3 => ⟨(_, _), ⟨rfl, rfl, trivial⟩, rfl, ?_, ?_⟩)⟩) (fun e2 => ite_both (fun e3 => ⟨(_, _), ⟨rfl, rfl, trivial⟩, rfl, ?_, ?_⟩) (fun e3 => ⟨(_, _), ⟨rfl, rfl, trivial⟩, rfl, ?_, ?_⟩))
        all_goals first | (simp at *; omega) | exact ports_eq (by simp at e2; omega) (by simp at e3; omega)
theorem rCheck_ok (w : World) (h : HN) : Calls Tryd.prog 9 #[.agg (hvs h)] w (endW (fun v w' => v = .int .i64 (chk h) ∧ Chg NoS w w') (fun _ _ => False)) := by
  refine F9_calls _ _ _ _ _ _ _ _ _ _ _ ?_
  delta F9
  have hb := blk_alloc w (.cells (hvs h) 24)
  have hca := chg_alloc w (.cells (hvs h) 24) NoS
  have cell : ∀ {w' : World}, Chg NoS (w.alloc (.cells (hvs h) 24)) w' → ∀ k, k < 11 → w'.cell? (addK ⟨w.heap.size, 0, none⟩ k) = some (.int .u64 (h k)) := fun hc k hk => by
    rw [addK_lit, Nat.zero_add, cell_blk (hc.blk hb fun x => x)]
    exact hvs_at h k hk
  generalize hw0 : w.alloc (.cells (hvs h) 24) = w0 at hb hca cell ⊢
  generalize hp : w.heap.size = p at hb cell ⊢
  refine ⟨fun s w' => ∃ k : Nat, s = (k : Int) ∧ k ≤ 11 ∧ Chg NoS w0 w' ∧ ∀ f, f < k → h f < 2 ^ wid f, fun s _ => (11 - s).toNat, ⟨0, ⟨rfl, trivial⟩, 0, rfl, by omega, Chg.refl _ _, fun f hf => by omega⟩, ?_⟩
  rintro s w1 ⟨k, rfl, hk, hc, hall⟩ _
  by_cases hlt : k < 11
  · rw [if_pos (by simp; omega)]
    refine ⟨by omega, by omega, _, by rw [Int.toNat_natCast, Nat.mul_one]; exact cell hc k hlt, ?_⟩
    refine Calls.then (rFits_ok w1 k (h k)) ?_
    rintro v w2 ⟨rfl, hc2⟩
    refine ⟨_, rfl, ?_⟩
    rw [fitsN_nat hlt]
    have e8 : IntKind.wrap .i8 ((k : Int) + 1) = ((k + 1 : Nat) : Int) := by rw [IntWalk.i8_in _ (by omega)]; rfl
    by_cases hf : h k < 2 ^ wid k
    · rw [if_neg (by simp [hf])]
      refine ⟨((k + 1 : Nat) : Int), ⟨by rw [e8], trivial⟩, ⟨k + 1, rfl, by omega, hc.trans hc2, fun f hf' => ?_⟩, by dsimp only; omega⟩
      rcases Nat.lt_succ_iff_lt_or_eq.1 hf' with h1 | h1
      · exact hall f h1
      · rw [h1]; exact hf
    · rw [if_pos (by simp [hf])]
      refine ⟨by rw [okH_no]; intro ho; exact hf (ho.1 k hlt), (hca.trans hc).trans hc2⟩
  · rw [if_neg (by simp; omega)]
    have : k = 11 := by omega
    subst this
    have cl := cell hc
    have hcw := hca.trans hc
    have yes : okH h → (Value.int .i64 0 : Value) = .int .i64 (chk h) ∧ Chg NoS w w1 := fun ho => ⟨by rw [okH_yes ho], hcw⟩
    have no : ¬ okH h → (Value.int .i64 10 : Value) = .int .i64 (chk h) ∧ Chg NoS w w1 := fun ho => ⟨by rw [okH_no ho], hcw⟩
    refine ⟨fun s w' => w' = w1 ∧ h 2 ≠ 33024 ∧ ¬ h 2 < 1536, ?_, by omega, by omega, _, cl 2 (by omega), ?_⟩
    · rintro s w' ⟨rfl, hne, hlt2⟩ _
      refine ⟨fun s w2 => w2 = w' ∧ (h 2 = 2048 ∨ (h 6 = 0 ∧ (h 2 = 2054 ∨ (h 4 = 0 ∧ h 5 = 0)))), ?_, by omega, by omega, _, cl 2 (by omega), ?_⟩
      · rintro s w2 ⟨rfl, hip⟩ _
        repeat' (first
          | refine ite_both (fun _ => ?_) (fun _ => ?_)
          | refine ⟨by omega, by omega, _, cl 6 (by omega), ?_⟩
          | refine ⟨by omega, by omega, _, cl 7 (by omega), ?_⟩
          | refine ⟨by omega, by omega, _, cl 8 (by omega), ?_⟩
          | (refine yes ?_; simp at *; unfold okH; refine ⟨hall, ?_⟩; omega)
          | (refine no fun ho => ?_; obtain ⟨_, g⟩ := ho; simp at *; omega))
      · repeat' (first
          | refine ite_both (fun _ => ?_) (fun _ => ?_)
          | refine ⟨by omega, by omega, _, cl 6 (by omega), ?_⟩
          | refine ⟨by omega, by omega, _, cl 2 (by omega), ?_⟩
          | refine ⟨by omega, by omega, _, cl 4 (by omega), ?_⟩
          | refine ⟨by omega, by omega, _, cl 5 (by omega), ?_⟩
          | (refine ⟨(), trivial, rfl, ?_⟩; simp at *; omega)
          | (refine no fun ho => ?_; obtain ⟨_, g⟩ := ho; simp at *; omega))
    · repeat' (first
        | refine ite_both (fun _ => ?_) (fun _ => ?_)
        | refine ⟨by omega, by omega, _, cl 2 (by omega), ?_⟩
        | (refine ⟨(), trivial, rfl, ?_⟩; simp at *; omega)
        | (refine no fun ho => ?_; obtain ⟨_, g⟩ := ho; simp at *; omega))
end Go.Proofs.YtjbgckpalaodaaaDoor.B
