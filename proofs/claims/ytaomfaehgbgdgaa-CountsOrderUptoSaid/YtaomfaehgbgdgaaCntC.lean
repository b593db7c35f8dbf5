/-
  Counts: a book made ready.
-/
import Derived.Test.YtaomfaehgbgdgaaCntB
set_option maxRecDepth 100000
set_option linter.unusedVariables false
set_option linter.unusedSimpArgs false
namespace Go.Proofs.Ytaomfaehgbgdgaa.B
open Go Go.Proofs Go.Proofs.YtaomfaehgbgdgaaEng

theorem Ready_ok {w : World} {b : Nat} {L : List En} {V : List Ve} {W G : Nat → Prop} (h : Book w b L V W G) :
    Calls Try.prog 16 #[.pointer (some ⟨b, 0, none⟩)] w (endW (fun v w' => v = .pointer (some ⟨b, 0, none⟩) ∧ ∃ (W' : Nat → Prop) (r q : Nat), Warm w' b r q L V W' G ∧ Chg W w w' ∧ (∀ k, W k → W' k) ∧ (∀ k, W' k → W k ∨ w.heap.size ≤ k)) (fun _ _ => False)) := by
  refine F16_calls (some ⟨b, 0, none⟩) ?_
  delta F16
  have c1 := chg_alloc w (.cells #[.pointer (some ⟨b, 0, none⟩)] 27) NoS
  have b1 := blk_alloc w (.cells #[.pointer (some ⟨b, 0, none⟩)] 27)
  have z1 := size_alloc w (.cells #[.pointer (some ⟨b, 0, none⟩)] 27)
  generalize w.alloc (.cells #[.pointer (some ⟨b, 0, none⟩)] 27) = w1 at *
  have hbl := h.lt b (.inl h.fb)
  refine ⟨_, (cell_blk b1 0).trans rfl, ?_⟩
  rw [wSome_some', addK_zero]
  have h1 := h.keep c1 fun _ _ x => x
  rcases h1.st with ⟨hb, rfl, rfl⟩ | ⟨r, q, hw⟩
  · have f0 : w1.cell? ⟨b, 0, none⟩ = some (.int .u32 0) := by rw [cell_blk hb]; rfl
    have f1 : w1.cell? ⟨b, 0 + 1, none⟩ = some (.int .i32 0) := by rw [cell_blk hb]; rfl
    have hbA := blk_setCell hb 1 (.int .i32 1)
    have cA := chg_setCell w1 b 1 (.int .i32 1)
    have zA := size_setCell w1 ⟨b, 1, none⟩ (.int .i32 1)
    have cB := cA.blk b1 (fun e => by have : w.heap.size = b := e; omega)
    have hm := Maps_ok (x0 := .int .u32 0) (x1 := .int .i32 1) (x2 := .int .u32 0) (x3 := .map none) (x4 := .map none) hbA cB (by omega)
    have hf := do_first b 0 ⟨w.heap.size, 0, none⟩ (fun w2 => w2.heap[b]? = some (.cells #[.int .u32 0, .int .i32 1, .int .u32 0, .map (some w1.heap.size), .map (some (w1.heap.size + 1))] 69 (0, 0)) ∧ w2.heap[w1.heap.size]? = some (.map #[] 0) ∧ w2.heap[w1.heap.size + 1]? = some (.map #[] 0) ∧ Chg (OnlyB b) w1 w2 ∧ w2.heap.size = w1.heap.size + 2) w1 f0 f1 (frozen_blk hb 0 none) (frozen_blk hb 1 none) (by
      refine hm.mono fun e w' he => ?_
      cases e with
      | returned v =>
        obtain ⟨rfl, g1, g2, g3, g4, g5⟩ := he
        rw [zA] at g1 g2 g3 g5
        exact ⟨rfl, ⟨g1, g2, g3, cA.trans g4, g5⟩, by rw [cell_blk g1]; rfl, by rw [cell_blk g1]; rfl, frozen_blk g1 0 none, frozen_blk g1 1 none⟩
      | panicked c => exact he.elim
      | outgrown => exact he.elim)
    refine hf.mono fun e w' he => ?_
    obtain ⟨rfl, w2, ⟨g1, g2, g3, g4, g5⟩, rfl⟩ := he
    have hd := chg_drew w2 NoS
    have g1d := hd.blk g1 (fun x => x)
    have zd := size_drew w2
    have e1 := blk_setCell g1d 0 (.int .u32 1)
    have k1 := chg_setCell w2.drew b 0 (.int .u32 1)
    have s1 := size_setCell w2.drew ⟨b, 0, none⟩ (.int .u32 1)
    generalize w2.drew.setCell ⟨b, 0, none⟩ (.int .u32 1) = w3 at *
    have e2 := blk_setCell e1 1 (.int .i32 0)
    have k2 := chg_setCell w3 b 1 (.int .i32 0)
    have s2 := size_setCell w3 ⟨b, 1, none⟩ (.int .i32 0)
    have hcw := (k1.trans k2)
    have hne : ∀ k, k ≠ b → ¬ OnlyB b k := fun k hk e => hk e
    have hb1 := lt_of_blk b1
    have g2' := hcw.blk (hd.blk g2 (fun x => x)) (hne _ (by omega))
    have g3' := hcw.blk (hd.blk g3 (fun x => x)) (hne _ (by omega))
    have hall : Chg (OnlyB b) w1 (w3.setCell ⟨b, 1, none⟩ (.int .i32 0)) := (g4.trans (hd.mono fun _ _ x => x.elim)).trans hcw
    have b1' := hall.blk b1 (hne _ (by omega))
    refine ⟨_, (cell_blk b1' 0).trans rfl, rfl, fun k => W k ∨ k = w1.heap.size ∨ k = w1.heap.size + 1, w1.heap.size, w1.heap.size + 1, ?_, ?_, fun k hk => .inl hk, fun k hk => hk.elim .inl fun hk => .inr (by rcases hk with hk | hk <;> omega)⟩
    · refine ⟨e2, .inl h.fb, .inr (.inl rfl), .inr (.inr rfl), by omega, by omega, by omega, fun k hk => ?_, fun k hk hg => ?_, ⟨0, g2', fun e he => by cases he⟩, (fun e he => by cases he), .nil, .nil, .nil, ⟨0, g3', fun e he => by cases he⟩, (fun e he => by cases he), .nil, .nil⟩
      · rw [s2, s1, zd, g5]
        rcases hk with (hk | hk | hk) | hk
        · have := h.lt k (.inl hk); omega
        · omega
        · omega
        · have := h.lt k (.inr hk); omega
      · rcases hk with hk | hk | hk
        · exact h.dis k hk hg
        · have := h.lt k (.inr hg); omega
        · have := h.lt k (.inr hg); omega
    · exact (c1.mono fun _ _ x => x.elim).trans2 hall fun k hk e => by have : k = b := e; subst this; exact h.fb
  · have f0 : w1.cell? ⟨b, 0, none⟩ = some (.int .u32 1) := by rw [cell_blk hw.bk]; rfl
    refine (do_done ⟨b, 0, none⟩ 1 (by decide) _ w1 f0).mono fun e w' he => ?_
    obtain ⟨rfl, rfl⟩ := he
    exact ⟨_, (cell_blk b1 0).trans rfl, rfl, W, r, q, hw, c1.mono fun _ _ x => x.elim, fun k hk => hk, fun k hk => .inl hk⟩
end Go.Proofs.Ytaomfaehgbgdgaa.B
