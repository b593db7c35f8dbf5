/-
  parse: what is answered is one; faults as the law tells them; the texts by hand.
-/
import Derived.Test.YtgoanblnkdihfaaDoorPaP
import Derived.Test.YtgoanblnkdihfaaDoorScK
set_option maxRecDepth 100000
set_option linter.unusedVariables false
set_option linter.unusedSimpArgs false
namespace Go.Proofs.YtgoanblnkdihfaaDoor.B
open Go Go.Proofs Go.Proofs.YtgoanblnkdihfaaDoorEng Go.RowKit

theorem kept_of_ {w w' : World} (hc : Chg NoS w w') : Kept NoS w w' := ⟨hc.size, fun b hb _ => hc.block b hb fun x => x⟩
theorem as_hit2 (e q : Nat) (w : World) (hg : w.cell? ⟨0, 0, none⟩ = some (.iface 95 (.agg #[.pointer (some ⟨6, 33, none⟩)]))) (ht : w.heap[q]? = some (.cells #[.pointer none] 48 (0, 0))) :
    Calls Tryd.prog 18 #[.iface 48 (.pointer (some ⟨e, 0, none⟩)), .iface 65 (.pointer (some ⟨q, 0, none⟩))] w fun ev w' => ev = .returned (.bool true) ∧ w'.heap[q]? = some (.cells #[.pointer (some ⟨e, 0, none⟩)] 48 (0, 0)) ∧ Chg (OnlyB q) w w' := by
  refine (as_hit ⟨e, 0, none⟩ ⟨q, 0, none⟩ (.pointer none) w hg (by rw [cell_blk ht]; rfl) (frozen_blk ht 0 none)).mono ?_
  rintro ev w' ⟨rfl, rfl⟩
  have c := (((chg_alloc w (.cells #[.pointer (some ⟨q, 0, none⟩)] 65) NoS).trans (chg_alloc _ (.cells #[.pointer (some ⟨6, 65, none⟩), .pointer (some ⟨w.heap.size, 0, none⟩), .int .u64 150] 79) NoS)).trans (chg_alloc _ (.cells #[.pointer (some ⟨6, 65, none⟩), .pointer (some ⟨w.heap.size, 0, none⟩), .int .u64 150] 79) NoS)).trans (chg_alloc _ (.cells #[.pointer (some ⟨e, 0, none⟩)] 48) NoS)
  exact ⟨rfl, blk_setCell (c.blk ht fun x => x) 0 _, (c.mono fun _ _ x => x.elim).trans (chg_setCell _ q 0 _)⟩

/-- what the library's variables hold -/
def Libs (w : World) : Prop := Errs w ∧ w.cell? ⟨0, 0, none⟩ = some (.iface 95 (.agg #[.pointer (some ⟨6, 33, none⟩)]))
theorem Libs.chg {w w' : World} (h : Libs w) (hc : Chg NoS w w') : Libs w' := ⟨h.1.chg hc, hc.sameOld.cell h.2⟩
theorem Qa.det {ws : List Wd} {i : Nat} {r s : Pr} (h : Qa ws i r) (k : Qa ws i s) : r = s := by
  unfold Qa at h k
  cases hx : ws[i]? with
  | none => rw [hx] at h; exact h.elim
  | some x =>
    rw [hx] at h k
    dsimp only at h k
    by_cases h1 : isName x = true
    · rw [if_pos h1] at h k
      by_cases h2 : isW ws (i + 1) 3 [61] = true
      · rw [if_pos h2] at h k
        exact h.det k
      · rw [if_neg h2] at h k
        rw [h, k]
    · rw [if_neg h1] at h k
      rw [h, k]
theorem QsR.det {ws : List Wd} {i e e' : Nat} {l l' : List (List UInt8 × Tm)} {b b' : Bool} (h : QsR ws i l e b) (k : QsR ws i l' e' b') : l = l' ∧ e = e' ∧ b = b' := by
  induction h generalizing l' e' b' with
  | stop h =>
    cases k with
    | stop _ => exact ⟨rfl, rfl, rfl⟩
    | bad k1 _ => rw [h] at k1; cases k1
    | go k1 _ _ _ => rw [h] at k1; cases k1
  | bad h1 h2 =>
    cases k with
    | stop k1 => rw [h1] at k1; cases k1
    | bad _ k2 =>
      have := h2.det k2
      injection this with this
      exact ⟨rfl, this, rfl⟩
    | go _ _ k3 _ => have := h2.det k3; cases this
  | go h1 hx h3 h4 ih =>
    cases k with
    | stop k1 => rw [h1] at k1; cases k1
    | bad _ k2 => have := h3.det k2; cases this
    | go _ kx k3 k4 =>
      have := h3.det k3
      injection this with e1 e2
      subst e1; subst e2
      rw [hx] at kx
      injection kx with kx
      subst kx
      obtain ⟨rfl, rfl, rfl⟩ := ih k4
      exact ⟨rfl, rfl, rfl⟩
theorem FileP.det {ws : List Wd} {o o' : Fo} (h : FileP ws o) (k : FileP ws o') : o = o' := by
  rcases h with ⟨j, x, h1, h2, rfl⟩ | ⟨t, j, l, e, b, x, h1, h2, h3, rfl⟩ <;> rcases k with ⟨j', x', k1, k2, rfl⟩ | ⟨t', j', l', e', b', x', k1, k2, k3, rfl⟩
  · have := h1.det k1
    injection this with this
    subst this
    rw [h2] at k2
    injection k2 with k2
    rw [k2]
  · have := h1.det k1; cases this
  · have := h1.det k1; cases this
  · have := h1.det k1
    injection this with e1 e2
    subst e1; subst e2
    obtain ⟨rfl, rfl, rfl⟩ := h2.det k2
    rw [h3] at k3
    injection k3 with k3
    rw [k3]
theorem PolP.det {t : List UInt8} {o o' : Fo} (h : PolP t o) (k : PolP t o') : o = o' := by
  unfold PolP at h k
  cases hall : allR t with
  | inr x =>
    rw [hall] at h k
    dsimp only at h k
    rw [h, k]
  | inl ws =>
    rw [hall] at h k
    exact FileP.det h k
/-- Policy's answer, where it is known -/
theorem Policy_is {w : World} {t : List UInt8} {o : Fo} (hE : Errs w) (ho : PolP t o) : Calls Tryd.prog 5 #[.string (bs t)] w (endW (RetF w o) (fun _ _ => False)) :=
  (Policy_ok w t hE).mono fun e w' he => by
    cases e with
    | panicked _ => exact he.elim
    | outgrown => exact he.elim
    | returned v =>
      obtain ⟨o', h1, h2⟩ := he
      rw [ho.det h1]
      exact h2
theorem Fault_nil (w : World) : Calls Tryd.prog 7 #[.nilIface] w (endW (fun v w' => v = .tuple #[.agg #[.int .i64 0, .int .i64 0, .string ⟨#[]⟩], .bool true] ∧ Chg NoS w w') (fun _ _ => False)) := by
  refine F7_calls _ ?_
  delta F7
  refine ⟨.inl rfl, ?_⟩
  rw [if_pos (by rfl)]
  refine (put4 (w := w) (vs := [.int .i64 0, .int .i64 0, .string { data := #[] }]) (cs := [.int .i64 0, .int .i64 0, .string { data := #[] }]) (blk_alloc w _) (chg_alloc w _ _) (Nat.le_refl _) rfl (by simp [oneC]) fun w2 b2 c2 _ _ => ?_ : setsW _ _ _ _ _)
  exact ⟨_, get_blk b2 0 _ rfl, _, get_blk b2 1 _ rfl, _, get_blk b2 2 _ rfl, rfl, c2⟩
theorem Fault_ok {w : World} {p code pos : Nat} {txt : List UInt8} (hb : w.heap[p]? = some (.cells #[.int .i64 (code : Int), .int .i64 (pos : Int), .string (bs txt)] 62 (0, 0))) (h0 : code ≠ 0) (hL : Libs w) :
    Calls Tryd.prog 7 #[.iface 48 (.pointer (some ⟨p, 0, none⟩))] w (endW (fun v w' => v = .tuple #[.agg #[.int .i64 (code : Int), .int .i64 (pos : Int), .string (bs txt)], .bool true] ∧ Chg NoS w w') (fun _ _ => False)) := by
  refine F7_calls _ ?_
  delta F7
  refine ⟨.inr ⟨_, _, rfl⟩, ?_⟩
  rw [if_neg (by simp [isNilI])]
  have c1 := chg_alloc w (.cells #[.int .i64 0, .int .i64 0, .string { data := #[] }] 40) NoS
  have b1 := blk_alloc w (.cells #[.int .i64 0, .int .i64 0, .string { data := #[] }] 40)
  have z1 := size_alloc w (.cells #[.int .i64 0, .int .i64 0, .string { data := #[] }] 40)
  generalize w.alloc (.cells #[.int .i64 0, .int .i64 0, .string { data := #[] }] 40) = w1 at c1 b1 z1 ⊢
  have c2 := chg_alloc w1 (.cells #[.pointer none] 48) NoS
  have b2 := blk_alloc w1 (.cells #[.pointer none] 48)
  generalize w1.alloc (.cells #[.pointer none] 48) = w2 at c2 b2 ⊢
  have hplt := lt_of_blk hb
  refine (as_hit2 p w1.heap.size w2 (hL.chg (c1.trans c2)).2 b2).mono ?_
  rintro ev w3 ⟨rfl, f3, c3⟩
  have c13 : Chg NoS w w3 := (c1.trans c2).trans2 c3 fun k hk e => by have : k = w1.heap.size := e; omega
  have r3 := c3.blk (c2.blk b1 fun x => x) (by show ¬ w.heap.size = w1.heap.size; omega)
  have p3 := c13.blk hb fun x => x
  have g3 : w3.cell? ⟨w1.heap.size, 0, none⟩ = some (.pointer (some ⟨p, 0, none⟩)) := by rw [cell_blk f3]; rfl
  have l3 : ∀ k v, (#[.int .i64 (code : Int), .int .i64 (pos : Int), .string (bs txt)] : Array Value)[k]? = some v → w3.cell? (addK ⟨p, 0, none⟩ k) = some v := fun k v hv => by rw [addK_lit, Nat.zero_add, cell_blk p3]; exact hv
  have r3' : w3.heap[w.heap.size]? = some (.cells [.int .i64 0, .int .i64 0, .string { data := #[] }].toArray 40 (0, 0)) := r3
  have g3d : w3.drew.cell? ⟨w1.heap.size, 0, none⟩ = some (.pointer (some ⟨p, 0, none⟩)) := g3
  have l3d : ∀ k v, (#[.int .i64 (code : Int), .int .i64 (pos : Int), .string (bs txt)] : Array Value)[k]? = some v → w3.drew.cell? (addK ⟨p, 0, none⟩ k) = some v := l3
  have r3d : w3.drew.heap[w.heap.size]? = some (.cells [.int .i64 0, .int .i64 0, .string { data := #[] }].toArray 40 (0, 0)) := r3
  have c13d := c13.trans (chg_drew w3 NoS)
  refine ⟨_, rfl, ?_⟩
  rw [if_pos rfl]
  refine ⟨_, g3, ?_⟩
  rw [if_pos (by rfl)]
  refine ⟨_, g3, some_w ⟨_, l3 0 _ rfl, ?_⟩⟩
  rw [if_pos (by simp; omega)]
  refine ⟨_, g3d, some_w ⟨_, l3d 0 _ rfl, _, g3d, some_w ⟨_, l3d 1 _ rfl, _, g3d, some_w ⟨_, l3d 2 _ rfl, ?_⟩⟩⟩⟩
  refine (put4 (w := w) (vs := [.int .i64 (code : Int), .int .i64 (pos : Int), .string (bs txt)]) r3d c13d (Nat.le_refl _) rfl (by simp [oneC]) fun w4 b4 c4 _ _ => ?_ : setsW _ _ _ _ _)
  exact ⟨_, get_blk b4 0 _ rfl, _, get_blk b4 1 _ rfl, _, get_blk b4 2 _ rfl, rfl, c4⟩
end Go.Proofs.YtgoanblnkdihfaaDoor.B
