/-
  parse: a policy that is neither too big nor too deep.
-/
import Derived.Test.YtgoanblnkdihfaaDoorPaG
set_option maxRecDepth 100000
set_option linter.unusedVariables false
set_option linter.unusedSimpArgs false
namespace Go.Proofs.YtgoanblnkdihfaaDoor.B
open Go Go.Proofs Go.Proofs.YtgoanblnkdihfaaDoorEng Go.RowKit

abbrev Qu := ByteArray × Tm
def QsAt (w : World) (qs : List Qu) (a : Option Addr) : Prop := ∀ (j : Nat) (q : Qu), qs[j]? = some q → ∃ A, a = some A ∧ w.cell? (addK (addK A (j * 5)) 0) = some (.string q.1) ∧ TmP w q.2 (addK (addK A (j * 5)) 1)
theorem QsAt.keep {w w' : World} {qs : List Qu} {a : Option Addr} (h : QsAt w qs a) (hc : Chg NoS w w') : QsAt w' qs a := fun j q hq => by
  obtain ⟨A, e, h1, h2⟩ := h j q hq
  exact ⟨A, e, cell_keep h1 hc, h2.keep hc⟩
def preds (qs : List Qu) : List Tm := qs.map (·.2)
abbrev parr (v : V4) (a : Option Addr) (n c : Nat) : Array Value := #[.int .i8 v.op, .int .i8 v.f, .int .u64 v.n, .slice v.b v.m v.c, .slice a n c]
/-- neither too many terms nor too deep -/
def smallS (l : List Tm) : Bool := decide (lsize l ≤ 4096 ∧ ldepth l ≤ 128)
theorem smallS_snoc (l : List Tm) (t : Tm) : smallS (l ++ [t]) = (smallS l && room (4096 - lsize l) 1 t) := by
  have h1 := lsize_append l [t]
  have h2 := ldepth_append l [t]
  have e1 : lsize [t] = tsize t := by simp [lsize]
  have e2 : ldepth [t] = tdepth t := by simp [ldepth]
  rw [e1] at h1
  rw [e2] at h2
  unfold smallS room
  rw [h1, h2, ← Bool.decide_and]
  exact decide_eq_decide.2 (by omega)
theorem small_ok {w : World} {u : V4} {qa : Option Addr} {qc : Nat} {main : Tm} {qs : List Qu} (hm : u.is w main) (hq : QsAt w qs qa) (hl : qs.length ≤ 1000000) :
    Calls Tryd.prog 16 #[.agg (parr u qa qs.length qc)] w (endW (fun v w' => v = .bool (smallS (main :: preds qs)) ∧ Chg NoS w w') (fun _ _ => False)) := by
  refine F16_calls _ _ _ _ _ _ _ _ _ ?_
  delta F16
  have c0 : Chg NoS w (w.alloc (.cells (parr u qa qs.length qc) 31)) := chg_alloc w _ _
  have b0 : (w.alloc (.cells (parr u qa qs.length qc) 31)).heap[w.heap.size]? = some (.cells (parr u qa qs.length qc) 31 (0, 0)) := blk_alloc w _
  generalize (w.alloc (.cells (parr u qa qs.length qc) 31)) = w1 at c0 b0 ⊢
  refine setW_blk (blk_alloc w1 _) (by simp) rfl fun w2 b2 c2 z2 => ?_
  have c12 : Chg NoS w1 w2 := (chg_alloc w1 _ _).trans2 c2 fun k hk e => by have : k = w1.heap.size := e; omega
  rw [size_alloc] at z2
  refine setW_blk (blk_alloc w2 _) (by simp) rfl fun w3 b3 c3 z3 => ?_
  have c23 : Chg NoS w2 w3 := (chg_alloc w2 _ _).trans2 c3 fun k hk e => by have : k = w2.heap.size := e; omega
  rw [size_alloc] at z3
  have s1 := c0.size
  have c13 := c12.trans c23
  have b03 := c13.blk b0 (fun x => x)
  have hcnt : Cnt w1 w3 w1.heap.size w2.heap.size ((4096 : Nat) : Int) := ⟨c23.blk (by simpa using b2) (fun x => x), by simpa using b3, c13, Nat.le_refl _, by omega⟩
  have pc : ∀ {w' : World}, Chg NoS w1 w' → w'.heap[w.heap.size]? = some (.cells (parr u qa qs.length qc) 31 (0, 0)) := fun h => h.blk b0 (fun x => x)
  have tm : TmP w1 main (addK ⟨w.heap.size, 0, none⟩ 0) := ⟨u.op, u.f, u.n, u.b, u.m, u.c, by rw [addK_zero, addK_lit, cell_blk b0]; rfl, by rw [addK_zero, addK_lit, cell_blk b0]; rfl, by rw [addK_zero, addK_lit, cell_blk b0]; rfl, by rw [addK_zero, addK_lit, cell_blk b0]; rfl, hm.keep c0⟩
  have hq1 := hq.keep c0
  refine ⟨some ⟨w1.heap.size, 0, none⟩, some ⟨w2.heap.size, 0, none⟩, by rw [cell_blk hcnt.2.1]; rfl, ?_⟩
  refine Calls.then (Down_ok (w0 := w1) main _ w3 _ _ 4096 1 tm hcnt (by omega) (by omega) (by omega)) ?_
  rintro v w4 ⟨rfl, y, hC4, hy⟩
  refine ⟨_, rfl, _, _, _, by rw [addK_lit, cell_blk (pc hC4.2.2.1)]; rfl, ?_⟩
  have r0 : room 4096 1 main = smallS [main] := by
    have := smallS_snoc [] main
    simpa [smallS, lsize, ldepth] using this.symm
  refine ⟨fun s w' => ∃ (j : Nat) (y : Int), s = (smallS (main :: preds (qs.take j)), (j : Int)) ∧ j ≤ qs.length ∧ Cnt w1 w' w1.heap.size w2.heap.size y ∧ (smallS (main :: preds (qs.take j)) = true → y = (4096 : Int) - lsize (main :: preds (qs.take j))), fun s _ => (qs.length - s.2).toNat, ⟨(room 4096 1 main, 0), ⟨rfl, rfl, trivial⟩, 0, y, by simp [preds, r0], by omega, hC4, ?_⟩, ?_⟩
  · intro h
    have := hy (by rw [r0]; simpa [preds] using h)
    simp [preds, lsize]
    omega
  rintro _ w5 ⟨j, y, rfl, hj, hC5, hy5⟩ _
  dsimp only
  by_cases hlt : j < qs.length
  · rw [if_pos (by simp; omega)]
    have hnext : main :: preds (qs.take (j + 1)) = (main :: preds (qs.take j)) ++ [qs[j].2] := by
      rw [List.take_add_one, List.getElem?_eq_getElem hlt]
      simp only [preds, List.map_append, List.cons_append]
      rfl
    have hs := smallS_snoc (main :: preds (qs.take j)) qs[j].2
    rw [← hnext] at hs
    have hCd := hC5.keep (chg_drew w5 NoS)
    cases hb : smallS (main :: preds (qs.take j)) with
    | true =>
      rw [if_pos rfl]
      have hy6 := hy5 hb
      have hle : lsize (main :: preds (qs.take j)) ≤ 4096 := (of_decide_eq_true hb).1
      obtain ⟨A, rfl, _, ht⟩ := hq1 j _ (List.getElem?_eq_getElem hlt)
      refine ⟨some ⟨w1.heap.size, 0, none⟩, some ⟨w2.heap.size, 0, none⟩, by rw [cell_blk hCd.2.1]; rfl, _, _, _, by rw [addK_lit, cell_blk (pc hCd.2.2.1)]; rfl, by omega, by omega, some_w ?_⟩
      rw [Int.toNat_natCast]
      rw [hy6, show (4096 : Int) - (lsize (main :: preds (qs.take j)) : Nat) = ((4096 - lsize (main :: preds (qs.take j)) : Nat) : Int) by omega] at hCd
      refine Calls.then (Down_ok (w0 := w1) qs[j].2 _ _ _ _ _ 1 ht hCd (by omega) (by omega) (by omega)) ?_
      rintro v w6 ⟨rfl, y', hC6, hy'⟩
      rw [hb, Bool.true_and] at hs
      refine ⟨_, rfl, (smallS (main :: preds (qs.take (j + 1))), ((j + 1 : Nat) : Int)), ⟨by rw [hs], by rw [i64w _ (by omega) (by omega)]; rfl, trivial⟩, ⟨j + 1, y', rfl, by omega, hC6, fun h => ?_⟩, by dsimp only; omega⟩
      have := hy' (by rw [← hs]; exact h)
      have hl2 : lsize (main :: preds (qs.take (j + 1))) = lsize (main :: preds (qs.take j)) + tsize qs[j].2 := by
        rw [hnext, lsize_append]
        simp [lsize]
      rw [hs] at h
      have hr := of_decide_eq_true h
      rw [hl2, this]
      omega
    | false =>
      rw [if_neg (by simp)]
      rw [hb, Bool.false_and] at hs
      exact ⟨(false, ((j + 1 : Nat) : Int)), ⟨rfl, by rw [i64w _ (by omega) (by omega)]; rfl, trivial⟩, ⟨j + 1, y, by rw [hs], by omega, hCd, fun h => by rw [hs] at h; cases h⟩, by dsimp only; omega⟩
  · rw [if_neg (by simp; omega)]
    obtain rfl : j = qs.length := by omega
    rw [List.take_length]
    exact ⟨rfl, c0.trans hC5.2.2.1⟩
end Go.Proofs.YtgoanblnkdihfaaDoor.B
