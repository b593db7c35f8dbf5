/-
  parse: a query.
-/
import Derived.Test.YtgoanblnkdihfaaDoorPaH
set_option maxRecDepth 100000
set_option linter.unusedVariables false
set_option linter.unusedSimpArgs false
namespace Go.Proofs.YtgoanblnkdihfaaDoor.B
open Go Go.Proofs Go.Proofs.YtgoanblnkdihfaaDoorEng Go.RowKit

def isName (x : Wd) : Bool := decide (x.kind = 1) && (keyOf x.txt).isNone
/-- what a query's reading answers, at its name -/
def Qa (ws : List Wd) (i : Nat) (r : Pr) : Prop := match ws[i]? with
  | none => False
  | some x => if isName x = true then (if isW ws (i + 1) 3 [61] = true then Pa ws (.row .pred) (i + 2) r else r = .bad (i + 1)) else r = .bad i
def qarr (s : List UInt8) (u : V4) : Array Value := #[.string (bs s), .int .i8 u.op, .int .i8 u.f, .int .u64 u.n, .slice u.b u.m u.c]
theorem query_ok {w : World} {q : Rp} {ws : List Wd} {i : Nat} {x : Wd} (h : Rdr w q ws i) (hx : ws[i]? = some x) (hp : PaAt q ws 24 (.row .pred) (i + 2)) :
    Calls Tryd.prog 13 #[.pointer (some ⟨q.b, 0, none⟩)] w (endW (fun v w' => ∃ t j u, Qa ws i (.ok t j) ∧ v = .agg (qarr x.txt u) ∧ u.own w' (fun k => w.heap.size ≤ k) t ∧ Rdr w' q ws j ∧ Chg (OnlyB q.b) w w') (BadP w q ws (Qa ws i))) := by
  refine F13_calls _ ?_
  delta F13
  have c0 : Chg NoS w (w.alloc (.cells #[.string { data := #[] }, .int .i8 0, .int .i8 0, .int .u64 0, .slice none 0 0] 44)) := chg_alloc w _ _
  have b0 : (w.alloc (.cells #[.string { data := #[] }, .int .i8 0, .int .i8 0, .int .u64 0, .slice none 0 0] 44)).heap[w.heap.size]? = some (.cells [.string { data := #[] }, .int .i8 0, .int .i8 0, .int .u64 0, .slice none 0 0].toArray 44 (0, 0)) := blk_alloc w _
  have z0 : (w.alloc (.cells #[.string { data := #[] }, .int .i8 0, .int .i8 0, .int .u64 0, .slice none 0 0] 44)).heap.size = w.heap.size + 1 := size_alloc w _
  generalize (w.alloc (.cells #[.string { data := #[] }, .int .i8 0, .int .i8 0, .int .u64 0, .slice none 0 0] 44)) = w0 at c0 b0 z0 ⊢
  have h0 := h.keep c0
  have hqb := lt_of_blk h.blk
  have hbl : w.heap.size ≠ q.b := by omega
  have small := h.st.small
  refine Calls.then (next_ok h0 hx) ?_
  rintro v w1 ⟨rfl, c1⟩
  have s1 := c1.size
  refine aggW ?_
  refine (put4 (w := w1) (vs := [.int .i8 (x.kind : Int), .string (bs x.txt), .int .u64 (x.num : Int), .int .i64 (x.pos : Int)]) (cs := [.int .i8 0, .string { data := #[] }, .int .u64 0, .int .i64 0]) (blk_alloc w1 _) (chg_alloc w1 _ _) (Nat.le_refl _) rfl (by simp [oneC]) fun w2 b2 c2 _ z2 => ?_ : setsW _ _ _ _ _)
  rw [size_alloc] at z2
  have c02 := (c0.trans c1).trans c2
  have r2 := (c1.trans c2).blk b0 (fun x => x)
  generalize hg : w1.heap.size = g at b2 z2 ⊢
  have hwg : w.heap.size < g := by omega
  refine ⟨fun _ w5 => Rdr w5 q ws i ∧ Chg NoS w w5 ∧ w5.heap[w.heap.size]? = some (.cells [.string { data := #[] }, .int .i8 0, .int .i8 0, .int .u64 0, .slice none 0 0].toArray 44 (0, 0)) ∧ w5.heap[g]? = some (.cells [.int .i8 (x.kind : Int), .string (bs x.txt), .int .u64 (x.num : Int), .int .i64 (x.pos : Int)].toArray 58 (0, 0)) ∧ isName x = true, ?_, ?_⟩
  · rintro _ w5 ⟨h5, c5, r5, b5, hn⟩ _
    have hk1 : x.kind = 1 := by simp [isName] at hn; exact hn.1
    have hlt := h.st.more i x hx (by omega)
    have hq : ∀ r, Qa ws i r ↔ (if isW ws (i + 1) 3 [61] = true then Pa ws (.row .pred) (i + 2) r else r = .bad (i + 1)) := fun r => by
      unfold Qa
      rw [hx]
      dsimp only
      rw [if_pos hn]
    refine some_w ⟨_, by rw [addK_lit, cell_blk h5.blk]; rfl, some_w ?_⟩
    refine set_i (j := i + 1) h5 hlt (by rw [i64w _ (by omega) (by omega)]; rfl) fun w6 h6 c6 _ => ?_
    have cB6 : Chg (OnlyB q.b) w w6 := (toB c5 _).trans c6
    have r6 := c6.blk r5 hbl
    have b6 := c6.blk b5 (by show ¬ g = q.b; omega)
    refine Calls.thenP (must_ok h6 3 [61] (by omega)) ?_ fun c w' hb => ⟨i + 1, (hq _).2 (by rw [if_neg (by simp [hb.1])]), hb.2.from cB6⟩
    rintro v w7 ⟨hw, h7, c7⟩
    have cB7 := cB6.trans c7
    have r7 := c7.blk r6 hbl
    have b7 := c7.blk b6 (by show ¬ g = q.b; omega)
    have h7d := h7.keep (chg_drew w7 NoS)
    have s7 := lt_of_blk b7
    refine ⟨OnlyB q.b, by rw [addK_block]; show ¬ g = q.b; omega, _, get_blk (w := w7.drew) b7 1 _ rfl, ?_⟩
    refine Calls.thenP (hp w7.drew h7d) ?_ fun c w' hb => BadP.from hb (cB7.trans (chg_drew w7 _)) fun j hj => (hq _).2 (by rw [if_pos hw]; exact hj)
    rintro v w8 ⟨t, j, u, hP, rfl, hu, h8, c8⟩
    have cB8 := (cB7.trans (chg_drew w7 _)).trans c8
    have r8 := c8.blk (show w7.drew.heap[w.heap.size]? = _ from r7) hbl
    refine agg4 ⟨⟨c8.size, fun b hb hs => c8.block b hb hs⟩, ?_⟩
    refine (putR (vs := [.string (bs x.txt), .int .i8 u.op, .int .i8 u.f, .int .u64 u.n, .slice u.b u.m u.c]) r8 cB8 (Nat.le_refl _) rfl (by simp [oneC]) fun w9 b9 cB9 c9 => ?_ : setsW _ _ _ _ _)
    have sd := size_drew w7
    refine ⟨_, get_blk b9 0 _ rfl, _, get_blk b9 1 _ rfl, _, get_blk b9 2 _ rfl, _, get_blk b9 3 _ rfl, _, _, _, get_blk b9 4 _ rfl, t, j, u, (hq _).2 (by rw [if_pos hw]; exact hP), rfl, hu.keep c9 (fun b hb e => by have : b = w.heap.size := e; omega) (fun b hb => by omega), h8.keep2 c9 h (Nat.le_refl _), cB9⟩
  · have h2 := h.keep c02
    have h2d := h2.keep (chg_drew w2 NoS)
    have c2d := c02.trans (chg_drew w2 NoS)
    have b2d : w2.drew.heap[g]? = _ := b2
    refine some_w ⟨_, by rw [addK_lit, cell_blk h2d.blk]; rfl, _, get_blk b2d 1 _ rfl, ?_⟩
    unfold runV
    rw [look_key h2d.st.keys]
    refine ⟨_, rfl, _, _, rfl, _, rfl, _, _, rfl, _, rfl, rfl, _, get_blk b2d 0 _ rfl, ?_⟩
    have giveup : isName x = false → Qa ws i (.bad i) := fun hn => by
      unfold Qa
      rw [hx]
      dsimp only
      rw [if_neg (by simp [hn])]
    by_cases hk1 : x.kind = 1
    · rw [if_pos (by simp [hk1])]
      cases hkf : keyOf x.txt with
      | none =>
        rw [if_neg (by simp)]
        exact ⟨(), trivial, h2d, c2d, r2, b2d, by simp [isName, hk1, hkf]⟩
      | some f =>
        rw [if_pos (by simp)]
        exact Calls.bad (bad_ok h2d) (toB c2d _) fun c w' hb => ⟨i, giveup (by simp [isName, hkf]), hb⟩
    · rw [if_neg (by simp; omega)]
      exact Calls.bad (bad_ok h2d) (toB c2d _) fun c w' hb => ⟨i, giveup (by simp [isName, hk1]), hb⟩
end Go.Proofs.YtgoanblnkdihfaaDoor.B
