/-
  scan: Told.
-/
import Derived.Test.YthifnahfcbgnoaaDoorScK
import Derived.Test.YthifnahfcbgnoaaDoorScL
import Derived.Test.YthifnahfcbgnoaaDoorScI
import Derived.Test.YthifnahfcbgnoaaDoorBF
import Derived.Test.YthifnahfcbgnoaaDoorBE
set_option maxRecDepth 100000
set_option linter.unusedVariables false
set_option linter.unusedSimpArgs false
namespace Go.Proofs.YthifnahfcbgnoaaDoor.B
open Go Go.Proofs Go.Proofs.YthifnahfcbgnoaaDoorEng Go.RowKit

theorem kept_of {w w' : World} (hc : Chg NoS w w') : Kept NoS w w' := ⟨hc.size, fun b hb _ => hc.block b hb fun x => x⟩
theorem as_hit2 (e q : Nat) (w : World) (hg : w.cell? ⟨0, 0, none⟩ = some (.iface 90 (.agg #[.pointer (some ⟨6, 24, none⟩)]))) (ht : w.heap[q]? = some (.cells #[.pointer none] 42 (0, 0))) :
    Calls Tryd.prog 15 #[.iface 42 (.pointer (some ⟨e, 0, none⟩)), .iface 52 (.pointer (some ⟨q, 0, none⟩))] w fun ev w' => ev = .returned (.bool true) ∧ w'.heap[q]? = some (.cells #[.pointer (some ⟨e, 0, none⟩)] 42 (0, 0)) ∧ Chg (OnlyB q) w w' := by
  refine (as_hit ⟨e, 0, none⟩ ⟨q, 0, none⟩ (.pointer none) w hg (by rw [cell_blk ht]; rfl) (frozen_blk ht 0 none)).mono ?_
  rintro ev w' ⟨rfl, rfl⟩
  have c := (((chg_alloc w (.cells #[.pointer (some ⟨q, 0, none⟩)] 52) NoS).trans (chg_alloc _ (.cells #[.pointer (some ⟨6, 52, none⟩), .pointer (some ⟨w.heap.size, 0, none⟩), .int .u64 150] 66) NoS)).trans (chg_alloc _ (.cells #[.pointer (some ⟨6, 52, none⟩), .pointer (some ⟨w.heap.size, 0, none⟩), .int .u64 150] 66) NoS)).trans (chg_alloc _ (.cells #[.pointer (some ⟨e, 0, none⟩)] 42) NoS)
  exact ⟨rfl, blk_setCell (c.blk ht fun x => x) 0 _, (c.mono fun _ _ x => x.elim).trans (chg_setCell _ q 0 _)⟩

/-- what the library's variables hold -/
def Libs (w : World) : Prop := Errs w ∧ w.cell? ⟨0, 0, none⟩ = some (.iface 90 (.agg #[.pointer (some ⟨6, 24, none⟩)]))
theorem Libs.chg {w w' : World} (h : Libs w) (hc : Chg NoS w w') : Libs w' := ⟨h.1.chg hc, hc.sameOld.cell h.2⟩
theorem told_same (b code pos : Nat) (txt : List UInt8) (w : World) (hb : w.heap[b]? = some (.cells #[.int .i64 (code : Int), .int .i64 (pos : Int), .string (bs txt)] 44 (0, 0))) (h0 : code ≠ 0) (hL : Libs w) :
    Calls Tryd.prog 9 #[.iface 42 (.pointer (some ⟨b, 0, none⟩)), .agg #[.int .i64 (code : Int), .int .i64 (pos : Int), .string (bs txt)]] w (endW (fun v w' => v = .bool true ∧ Chg NoS w w') (fun _ _ => False)) := by
  refine F9_calls _ _ _ _ ?_
  delta F9
  have hp1 : (w.alloc (.cells #[.int .i64 (code : Int), .int .i64 (pos : Int), .string (bs txt)] 29)).heap[w.heap.size]? = some (.cells #[.int .i64 (code : Int), .int .i64 (pos : Int), .string (bs txt)] 29 (0, 0)) := blk_alloc w _
  have hs1 : (w.alloc (.cells #[.int .i64 (code : Int), .int .i64 (pos : Int), .string (bs txt)] 29)).heap.size = w.heap.size + 1 := size_alloc w _
  have hc1 : Chg NoS w (w.alloc (.cells #[.int .i64 (code : Int), .int .i64 (pos : Int), .string (bs txt)] 29)) := chg_alloc w _ _
  have hblt := lt_of_blk hb
  show ∃ x : Int, World.cell? (w.alloc (.cells #[.int .i64 (code : Int), .int .i64 (pos : Int), .string (bs txt)] 29)) _ = some (.int .i64 x) ∧ _
  refine ⟨_, by rw [addK_lit, cell_blk hp1]; rfl, ?_⟩
  have hz : ¬ ((code : Int) == 0) = true := by simp; omega
  rw [if_neg hz]
  generalize w.alloc (.cells #[.int .i64 (code : Int), .int .i64 (pos : Int), .string (bs txt)] 29) = w1 at hp1 hs1 hc1 ⊢
  have hq2 : (w1.alloc (.cells #[.pointer none] 42)).drew.heap[w1.heap.size]? = some (.cells #[.pointer none] 42 (0, 0)) := blk_alloc w1 _
  have hc2 : Chg NoS w (w1.alloc (.cells #[.pointer none] 42)).drew := (hc1.trans (chg_alloc w1 _ _)).trans (chg_drew _ _)
  have hp2 : (w1.alloc (.cells #[.pointer none] 42)).drew.heap[w.heap.size]? = some (.cells #[.int .i64 (code : Int), .int .i64 (pos : Int), .string (bs txt)] 29 (0, 0)) := (chg_alloc w1 (.cells #[.pointer none] 42) NoS).blk hp1 fun x => x
  refine ⟨NoS, ?_⟩
  generalize (w1.alloc (.cells #[.pointer none] 42)).drew = w2 at hq2 hc2 hp2 ⊢
  have hb2 := hc2.blk hb fun x => x
  refine Calls.mono (as_hit2 b w1.heap.size w2 (hL.chg hc2).2 hq2) ?_
  rintro ev w3 ⟨rfl, hf, hc3⟩
  have hb3 := hc3.blk hb2 (by show ¬ b = w1.heap.size; omega)
  have hp3 := hc3.blk hp2 (by show ¬ w.heap.size = w1.heap.size; omega)
  have hcw : Chg NoS w w3 := hc2.trans2 hc3 fun k hk e => by have : k = w1.heap.size := e; omega
  have f0 : w3.cell? ⟨w1.heap.size, 0, none⟩ = some (.pointer (some ⟨b, 0, none⟩)) := by rw [cell_blk hf]; rfl
  have l : ∀ i v, (#[.int .i64 (code : Int), .int .i64 (pos : Int), .string (bs txt)] : Array Value)[i]? = some v → w3.cell? (addK ⟨b, 0, none⟩ i) = some v := fun i v hv => by rw [addK_lit, Nat.zero_add, cell_blk hb3]; exact hv
  have m : ∀ i v, (#[.int .i64 (code : Int), .int .i64 (pos : Int), .string (bs txt)] : Array Value)[i]? = some v → w3.cell? (addK ⟨w.heap.size, 0, none⟩ i) = some v := fun i v hv => by rw [addK_lit, Nat.zero_add, cell_blk hp3]; exact hv
  refine ⟨_, rfl, NoS, ?_⟩
  rw [if_pos rfl]
  refine ⟨fun x => x, _, f0, ?_⟩
  rw [if_pos (by rfl)]
  refine ⟨fun x => x, _, f0, fun x => x, _, l 0 _ rfl, fun x => x, _, m 0 _ rfl, ?_⟩
  rw [if_pos (by simp)]
  refine ⟨fun x => x, _, f0, fun x => x, _, l 1 _ rfl, fun x => x, _, m 1 _ rfl, ?_⟩
  rw [if_pos (by simp)]
  refine ⟨fun x => x, _, f0, fun x => x, _, l 2 _ rfl, fun x => x, _, m 2 _ rfl, ?_⟩
  rw [if_pos (by simp)]
  refine ⟨fun x => x, _, m 0 _ rfl, ?_⟩
  refine Calls.mono (is_hit b code w3 (by rw [cell_blk hb3]; rfl)) ?_
  rintro ev w4 ⟨rfl, rfl⟩
  exact ⟨_, rfl, kept_of (Chg.refl _ _), rfl, hcw⟩
theorem told_nil (w : World) : Calls Tryd.prog 9 #[.nilIface, .agg #[.int .i64 0, .int .i64 0, .string ⟨#[]⟩]] w (endW (fun v w' => v = .bool true ∧ Chg NoS w w') (fun _ _ => False)) := by
  refine F9_calls _ _ _ _ ?_
  delta F9
  refine ⟨_, by rw [addK_lit, cell_blk (blk_alloc w _)]; rfl, ?_⟩
  rw [if_pos (by rfl)]
  exact ⟨.inl rfl, rfl, chg_alloc w _ _⟩
end Go.Proofs.YthifnahfcbgnoaaDoor.B
