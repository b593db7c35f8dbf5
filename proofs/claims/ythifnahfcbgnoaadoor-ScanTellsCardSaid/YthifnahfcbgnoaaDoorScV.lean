/-
  scan: the document's All.
-/
import Derived.Test.YthifnahfcbgnoaaDoorScU
set_option maxRecDepth 100000
set_option linter.unusedVariables false
set_option linter.unusedSimpArgs false
set_option maxHeartbeats 400000
namespace Go.Proofs.YthifnahfcbgnoaaDoor.B
open Go Go.Proofs Go.Proofs.YthifnahfcbgnoaaDoorEng Go.RowKit

/-- the words from a place on hang on what stands behind blanks and remarks -/
theorem scan_sk {t : List UInt8} {a b : Nat} {ws : List Wd} (h : sk t false a = sk t false b) : scan t a ws = scan t b ws := by
  rw [scan.eq_1 t a ws, scan.eq_1 t b ws]
  simp only [h]
/-- what the document's All answers -/
def RAllV (w0 : World) (o : List Wd ⊕ (Nat × Nat × List UInt8)) (v : Value) (w' : World) : Prop := Chg NoS w0 w' ∧ (match o with
  | .inl ws => ∃ a n c, v = .tuple #[.slice a n c, .agg #[.int .i64 0, .int .i64 0, .string ⟨#[]⟩]] ∧ w'.ownsRow w0.heap.size 39 4 (.slice a n c) n (wcells ws) ∧ n = ws.length
  | .inr x => v = .tuple #[.slice none 0 0, .agg #[.int .i64 (x.1 : Int), .int .i64 (x.2.1 : Int), .string (bs x.2.2)]])
/-- the fault's own cells, written and read back -/
theorem retF {w : World} {q : Nat} (hq : ∃ d0 d1 d2, w.heap[q]? = some (.cells #[d0, d1, d2] 29 (0, 0))) {e f : Int} {u : ByteArray} {R : Int → Int → ByteArray → World → Prop} (h : ∀ w', Chg (fun b => b = q) w w' → R e f u w') :
    setW w (addK ⟨q, 0, none⟩ 0) (.int .i64 e) fun w => setW w (addK ⟨q, 0, none⟩ 1) (.int .i64 f) fun w => setW w (addK ⟨q, 0, none⟩ 2) (.string u) fun w =>
      ∃ x3 : Int, w.cell? (addK ⟨q, 0, none⟩ 0) = some (.int .i64 x3) ∧ ∃ x4 : Int, w.cell? (addK ⟨q, 0, none⟩ 1) = some (.int .i64 x4) ∧ ∃ s1 : ByteArray, w.cell? (addK ⟨q, 0, none⟩ 2) = some (.string s1) ∧ R x3 x4 s1 w := by
  obtain ⟨d0, d1, d2, hq⟩ := hq
  refine (sets_blk (b := q) (t := 29) (cs := #[d0, d1, d2]) (vs := [.int .i64 e, .int .i64 f, .string u]) hq rfl (by simp [oneC]) fun w2 b2 cc2 z2 => ?_ : setsW _ _ _ _ _)
  have m : ∀ (j : Nat) v, (#[.int .i64 e, .int .i64 f, .string u] : Array Value)[j]? = some v → w2.cell? (addK ⟨q, 0, none⟩ j) = some v := fun j v hv => by rw [addK_lit, Nat.zero_add, cell_blk b2]; exact hv
  exact ⟨_, m 0 _ rfl, _, m 1 _ rfl, _, m 2 _ rfl, h w2 cc2⟩
theorem rAll_long (w : World) (t : List UInt8) (ht : 65536 < t.length) : Calls Tryd.prog 8 #[.string (bs t)] w (endW (RAllV w (allR t)) (fun _ _ => False)) := by
  refine F8_calls _ ?_
  delta F8
  rw [bs_size, if_pos (by simp; omega)]
  have hr : allR t = .inr (3, 0, []) := by unfold allR; rw [if_pos (by omega)]
  rw [hr]
  refine retF (R := fun x x1 s w' => RAllV w (.inr (3, 0, [])) (.tuple #[.slice none 0 0, .agg #[.int .i64 x, .int .i64 x1, .string s]]) w') ⟨_, _, _, blk_alloc w F29o⟩ fun w' hc => ?_
  exact ⟨(chg_alloc w F29o NoS).trans2 hc fun b hb hx => by have : b = w.heap.size := hx; omega, rfl⟩
/-- a remark's end -/
theorem sk_true_end {t : List UInt8} {b : Nat} (h : ¬ b < t.length ∨ g t b = 10) : sk t true b = sk t false b := by
  by_cases hl : b < t.length
  · have hx : g t b = 10 := by rcases h with h | h; exact absurd hl h; exact h
    rw [sk_nl hl hx, sk_nl hl hx]
  · rw [sk_end hl, sk_end hl]
end Go.Proofs.YthifnahfcbgnoaaDoor.B
