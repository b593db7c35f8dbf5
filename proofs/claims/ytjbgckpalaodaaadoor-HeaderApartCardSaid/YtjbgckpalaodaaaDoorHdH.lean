/-
  header: the document's Text.
-/
import Derived.Test.YtjbgckpalaodaaaDoorHdG
set_option maxRecDepth 100000
set_option linter.unusedVariables false
set_option linter.unusedSimpArgs false
namespace Go.Proofs.YtjbgckpalaodaaaDoor.B
open Go Go.Proofs Go.Proofs.YtjbgckpalaodaaaDoorEng Go.RowKit

theorem rText_ok (w : World) (h : HN) : Calls Tryd.prog 11 #[.agg (hvs h)] w (endW (fun v w' => v = .string (bs (text h)) ∧ Chg NoS w w') (fun _ _ => False)) := by
  refine F11_calls _ _ _ _ _ _ _ _ _ _ _ ?_
  delta F11
  have hb := blk_alloc w (.cells (hvs h) 24)
  have hca := chg_alloc w (.cells (hvs h) 24) NoS
  have cell : ∀ {w' : World}, Chg NoS (w.alloc (.cells (hvs h) 24)) w' → ∀ k, k < 11 → w'.cell? (addK ⟨w.heap.size, 0, none⟩ k) = some (.int .u64 (h k)) := fun hc k hk => by
    rw [addK_lit, Nat.zero_add, cell_blk (hc.blk hb fun x => x)]
    exact hvs_at h k hk
  have c0 := cell (Chg.refl NoS _)
  refine ⟨_, c0 0 (by omega), _, c0 1 (by omega), _, c0 2 (by omega), _, c0 3 (by omega), _, c0 4 (by omega), _, c0 5 (by omega), _, c0 6 (by omega), _, c0 7 (by omega), _, c0 8 (by omega), _, c0 9 (by omega), _, c0 10 (by omega), ?_⟩
  refine Calls.then (rCheck_ok (w.alloc (.cells (hvs h) 24)) h) ?_
  rintro v w1 ⟨rfl, hc1⟩
  refine ⟨_, rfl, ?_⟩
  by_cases ho : okH h
  · rw [okH_yes ho, if_neg (by decide)]
    have hl64 := lt64 ho
    have htx : text h = Lib.join (parts h 11) [32] := by unfold text; rw [if_pos ho]
    rw [htx]
    refine ⟨fun s w2 => ∃ k : Nat, s.2 = (k : Int) ∧ k ≤ 11 ∧ Chg NoS (w.alloc (.cells (hvs h) 24)) w2 ∧ s.1 = bs (Lib.join (parts h k) [32]), fun s _ => (11 - s.2).toNat, ⟨(bs [], 0), ⟨rfl, rfl, trivial⟩, 0, rfl, by omega, hc1, rfl⟩, ?_⟩
    rintro ⟨s, z⟩ w2 ⟨k, hz, hk, hc2, hs⟩ _
    dsimp only at hz hs ⊢
    subst hz hs
    by_cases hlt : k < 11
    · rw [if_pos (by simp; omega)]
      have cl : w2.cell? (addK ⟨w.heap.size, 0, none⟩ ((k : Int).toNat * 1)) = some (.int .u64 (h k)) := by rw [Int.toNat_natCast, Nat.mul_one]; exact cell hc2 k hlt
      refine ⟨by omega, by omega, _, cl, ?_⟩
      have e8 : IntKind.wrap .i8 ((k : Int) + 1) = ((k + 1 : Nat) : Int) := by rw [IntWalk.i8_in _ (by omega)]; rfl
      have step : ∀ (w3 : World), Chg NoS w2 w3 → ∃ s' : ByteArray × Int, (Value.string s'.1 = .string (bs (Lib.join (parts h (k + 1)) [32])) ∧ Value.int .i8 s'.2 = .int .i8 (IntKind.wrap .i8 ((k : Int) + 1)) ∧ True) ∧
          (∃ k : Nat, s'.2 = (k : Int) ∧ k ≤ 11 ∧ Chg NoS (w.alloc (.cells (hvs h) 24)) w3 ∧ s'.1 = bs (Lib.join (parts h k) [32])) ∧ (11 - s'.2).toNat < (11 - (k : Int)).toNat := fun w3 hc3 =>
        ⟨(bs (Lib.join (parts h (k + 1)) [32]), ((k + 1 : Nat) : Int)), ⟨rfl, by rw [e8], trivial⟩, ⟨k + 1, rfl, by omega, hc2.trans hc3, rfl⟩, by show (11 - ((k + 1 : Nat) : Int)).toNat < _; omega⟩
      by_cases h0 : h k = 0
      · rw [if_pos (by simp [h0])]
        have hk2 : k ≠ 2 := fun e => by subst e; have := ho.2.2.1; omega
        have := step w2 (Chg.refl _ _)
        rw [parts_succ, if_neg (by simp [has, hk2, h0])] at this
        exact this
      · rw [if_neg (by simp [h0])]
        have hps := parts_succ h k
        rw [if_pos (by simp [has, h0])] at hps
        have hsn := join_snoc' (parts h k) (part h k) [32]
        rw [← hps] at hsn
        have hne := join_ne (parts h k) [32] fun l hl => (parts_mem hl64 hk l hl).1
        have hjl := text_len hl64 hk
        have hpl := part_len hlt (hl64 k hlt)
        rw [show ({ data := #[] } : ByteArray) = bs [] from rfl, show ({ data := #[32] } : ByteArray) = bs [32] from rfl, bs_beq]
        have kind : k = 2 → kindPre ++ hexs (h 2) 4 = part h k := fun e => by subst e; rfl
        have other : k ≠ 2 → nam k ++ [61] ++ numTxt k (h k) = part h k := fun e => by unfold part; rw [if_neg e]
        have hnl := nam_len k hlt
        have hul := numTxt_len (f := k) (hl64 k hlt)
        by_cases hp0 : parts h k = []
        · rw [if_neg (by simp [hne.2 hp0])]
          rw [if_pos hp0] at hsn
          have ej : Lib.join (parts h k) [32] = [] := hne.2 hp0
          by_cases hk2 : k = 2
          · rw [if_pos (by simp [hk2])]
            refine ⟨by omega, by omega, _, cl, ?_⟩
            refine Calls.then (rHex_ok w2 (h k) 4 (hl64 k hlt) (by omega)) ?_
            rintro v w3 ⟨rfl, hc3⟩
            refine ⟨_, rfl, by rw [max64, bs_size, hexs_length]; omega, ?_⟩
            rw [show ({ data := #[107, 105, 110, 100, 61, 48, 120] } : ByteArray) = bs kindPre from rfl, bs_app, bs_app, ej]
            have e2 : hexs (h k) 4 = hexs (h 2) 4 := by rw [hk2]
            rw [e2, kind hk2, bs_size, bs_size]
            refine ⟨by rw [max64]; simp; omega, ?_⟩
            rw [List.nil_append, ← hsn]
            exact step w3 hc3
          · rw [if_neg (by simp; omega)]
            refine ⟨NoS, by omega, by omega, fun x => x, _, (chg_drew w2 NoS).sameOld.cell cl, ?_⟩
            refine Calls.then (rName_ok w2.drew k hlt) ?_
            rintro v w3 ⟨rfl, hc3⟩
            refine ⟨_, rfl, ⟨hc3.size, fun b hb _ => hc3.block b hb fun x => x⟩, by rw [max64, bs_size]; omega, ?_⟩
            refine Calls.then (rNumber_ok w3 k (h k) hlt (hl64 k hlt)) ?_
            rintro v w4 ⟨rfl, hc4⟩
            refine ⟨_, rfl, ?_⟩
            rw [show ({ data := #[61] } : ByteArray) = bs [61] from rfl, bs_app, bs_app, bs_app, other hk2, ej]
            refine ⟨by rw [max64, bs_size, bs_size]; simp only [List.length_append, List.length_cons, List.length_nil]; omega, by rw [max64, bs_size, bs_size]; simp; omega, ?_⟩
            rw [List.nil_append, ← hsn]
            exact step w4 (((chg_drew w2 NoS).trans hc3).trans hc4)
        · rw [if_pos (by simp; exact fun e => hp0 (hne.1 e))]
          rw [if_neg hp0] at hsn
          refine ⟨by rw [max64, bs_size]; omega, ?_⟩
          by_cases hk2 : k = 2
          · rw [if_pos (by simp [hk2])]
            refine ⟨by omega, by omega, _, cl, ?_⟩
            refine Calls.then (rHex_ok w2 (h k) 4 (hl64 k hlt) (by omega)) ?_
            rintro v w3 ⟨rfl, hc3⟩
            refine ⟨_, rfl, by rw [max64, bs_size, hexs_length]; omega, ?_⟩
            have e2 : hexs (h k) 4 = hexs (h 2) 4 := by rw [hk2]
            rw [show ({ data := #[107, 105, 110, 100, 61, 48, 120] } : ByteArray) = bs kindPre from rfl, bs_app, bs_app, bs_app, e2, kind hk2, bs_size, bs_size]
            refine ⟨by rw [max64]; simp only [List.length_append, List.length_cons, List.length_nil]; omega, ?_⟩
            rw [← hsn]
            exact step w3 hc3
          · rw [if_neg (by simp; omega)]
            refine ⟨NoS, by omega, by omega, fun x => x, _, (chg_drew w2 NoS).sameOld.cell cl, ?_⟩
            refine Calls.then (rName_ok w2.drew k hlt) ?_
            rintro v w3 ⟨rfl, hc3⟩
            refine ⟨_, rfl, ⟨hc3.size, fun b hb _ => hc3.block b hb fun x => x⟩, by rw [max64, bs_size]; omega, ?_⟩
            refine Calls.then (rNumber_ok w3 k (h k) hlt (hl64 k hlt)) ?_
            rintro v w4 ⟨rfl, hc4⟩
            refine ⟨_, rfl, ?_⟩
            rw [show ({ data := #[61] } : ByteArray) = bs [61] from rfl, bs_app, bs_app, bs_app, bs_app, other hk2]
            refine ⟨by rw [max64, bs_size, bs_size]; simp only [List.length_append, List.length_cons, List.length_nil]; omega, by rw [max64, bs_size, bs_size]; simp only [List.length_append, List.length_cons, List.length_nil]; omega, ?_⟩
            rw [← hsn]
            exact step w4 (((chg_drew w2 NoS).trans hc3).trans hc4)
    · rw [if_neg (by simp; omega)]
      have : k = 11 := by omega
      subst this
      exact ⟨rfl, hca.trans hc2⟩
  · rw [okH_no ho, if_pos (by decide)]
    refine ⟨?_, hca.trans hc1⟩
    unfold text
    rw [if_neg ho]
end Go.Proofs.YtjbgckpalaodaaaDoor.B
