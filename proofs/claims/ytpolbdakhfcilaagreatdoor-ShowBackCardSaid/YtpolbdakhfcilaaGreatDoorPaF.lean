/-
  parse: brackets, not, star.
-/
import Derived.Test.YtpolbdakhfcilaaGreatDoorPaE
set_option maxRecDepth 100000
set_option linter.unusedVariables false
set_option linter.unusedSimpArgs false
namespace Go.Proofs.YtpolbdakhfcilaaGreatDoor.B
open Go Go.Proofs Go.Proofs.YtpolbdakhfcilaaGreatDoorEng Go.RowKit

theorem fin_ret {w w1 w8 : World} {q : Rp} {ws : List Wd} {i j : Nat} {P : Pr → Prop} {t : Tm} {u : V4} {S : Nat → Prop} (h : Rdr w q ws i) (hu : u.own w1 S t) (hS : ∀ k, S k → w.heap.size < k) (h1 : Rdr w1 q ws j) (cB8 : Chg (OnlyB q.b) w w8) (c8 : Chg (OnlyB w.heap.size) w1 w8) (hP : P (.ok t j)) : RetP w q ws P (.agg (V4.arr u)) w8 :=
  ⟨t, j, u, hP, rfl, hu.keep c8 (fun b hb e => by have : b = w.heap.size := e; have := hS b hb; omega) (fun b hb => Nat.le_of_lt (hS b hb)), h1.keep2 c8 h (Nat.le_refl _), cB8⟩
/-- a sign over one kid -/
theorem own_one {w : World} {S : Nat → Prop} {g : Nat} {u : V4} {t : Tm} {op : Int} (hop : 0 ≤ op ∧ op ≤ 127) (hb : w.heap[g]? = some (.cells u.arr 26 (0, 0))) (hu : u.own w S t) (hg : S g) : V4.own ⟨op, 0, 0, some ⟨g, 0, none⟩, 1, 1⟩ w S (.mk op 0 0 [t]) :=
  own_mk (us := [u]) ⟨by omega, hop.2, by omega, by omega, by omega, by omega⟩ rfl (Nat.le_refl _) (by omega) (.cons hu .nil) (by
    have := reads_lit hb
    simpa [flat, V4.cells] using this) fun A hA => by
      have := Option.some.inj hA
      subst this
      exact ⟨hg, rfl, rfl, _, _, hb⟩
/-- a sign over two kids -/
theorem own_two {w : World} {S : Nat → Prop} {g : Nat} {u v : V4} {t s : Tm} {op : Int} (hop : 0 ≤ op ∧ op ≤ 127) (hb : w.heap[g]? = some (.cells (u.cells ++ v.cells).toArray 26 (0, 0))) (hu : u.own w S t) (hv : v.own w S s) (hg : S g) : V4.own ⟨op, 0, 0, some ⟨g, 0, none⟩, 2, 2⟩ w S (.mk op 0 0 [t, s]) :=
  own_mk (us := [u, v]) ⟨by omega, hop.2, by omega, by omega, by omega, by omega⟩ rfl (Nat.le_refl _) (by omega) (.cons hu (.cons hv .nil)) (by
    have := reads_lit hb
    simpa [flat, V4.cells] using this) fun A hA => by
      have := Option.some.inj hA
      subst this
      exact ⟨hg, rfl, rfl, _, _, hb⟩

theorem in30_ok {q : Rp} {ws : List Wd} {i : Nat} (hp : PaAt q ws 51 (.row .pred) i) (w : World) (h : Rdr w q ws i) :
    Calls Tryz.prog 99 #[.pointer (some ⟨q.b, 0, none⟩), .func (.func 51) #[.pointer (some ⟨q.b, 0, none⟩)] #[]] w (endW (RetP w q ws fun r => ∃ s, Pa ws (.row .pred) i s ∧ s.next (closeS ws) = r) (BadP w q ws fun r => ∃ s, Pa ws (.row .pred) i s ∧ s.next (closeS ws) = r)) := by
  refine F99x51_calls _ ?_
  delta F99x51
  have c0 : Chg NoS w (w.alloc (.cells #[.int .i8 0, .int .i8 0, .int .u64 0, .slice none 0 0] 26)) := chg_alloc w _ _
  have b0 : (w.alloc (.cells #[.int .i8 0, .int .i8 0, .int .u64 0, .slice none 0 0] 26)).heap[w.heap.size]? = some (.cells [.int .i8 0, .int .i8 0, .int .u64 0, .slice none 0 0].toArray 26 (0, 0)) := blk_alloc w _
  have z0 : (w.alloc (.cells #[.int .i8 0, .int .i8 0, .int .u64 0, .slice none 0 0] 26)).heap.size = w.heap.size + 1 := size_alloc w _
  generalize (w.alloc (.cells #[.int .i8 0, .int .i8 0, .int .u64 0, .slice none 0 0] 26)) = w0 at c0 b0 z0 ⊢
  have h0 := h.keep c0
  have hqb := lt_of_blk h.blk
  have hbl : w.heap.size ≠ q.b := by omega
  refine Calls.thenP (hp w0 h0) ?_ fun c w' hb => BadP.from hb (toB c0 _) fun j hj => ⟨_, hj, rfl⟩
  rintro v w1 ⟨t, j, u, hP, rfl, hu, h1, c1⟩
  have cB1 := (toB c0 (OnlyB q.b)).trans c1
  have s1 := c1.size
  have b1 := c1.blk b0 hbl
  refine agg4 ?_
  refine (put4 (w := w1) (vs := [.int .i8 u.op, .int .i8 u.f, .int .u64 u.n, .slice u.b u.m u.c]) (cs := [.int .i8 0, .int .i8 0, .int .u64 0, .slice none 0 0]) (blk_alloc w1 _) (chg_alloc w1 _ _) (Nat.le_refl _) rfl (by simp [oneC]) fun w2 b2 c2 _ z2 => ?_ : setsW _ _ _ _ _)
  rw [size_alloc] at z2
  have h2 := h1.keep c2
  have cB2 := cB1.trans (toB c2 _)
  refine Calls.thenP (must_ok h2 3 [41] (by omega)) ?_ fun c w' hb => ⟨j, ⟨_, hP, by show closeS ws t j = _; unfold closeS; rw [if_neg (by simp [hb.1])]⟩, hb.2.from cB2⟩
  rintro v w3 ⟨hw, h3, c3⟩
  have cB3 := cB2.trans c3
  have bt3 := c3.blk b2 (fun e => by have : w1.heap.size = q.b := e; omega)
  have br3 := c3.blk (c2.blk b1 (fun x => x)) hbl
  refine ⟨_, get_blk bt3 0 _ rfl, _, get_blk bt3 1 _ rfl, _, get_blk bt3 2 _ rfl, _, _, _, get_blk bt3 3 _ rfl, ?_⟩
  refine (putR (vs := [.int .i8 u.op, .int .i8 u.f, .int .u64 u.n, .slice u.b u.m u.c]) br3 cB3 (Nat.le_refl _) rfl (by simp [oneC]) fun w8 b8 cB8 c8 => ?_ : setsW _ _ _ _ _)
  refine ⟨_, get_blk b8 0 _ rfl, _, get_blk b8 1 _ rfl, _, get_blk b8 2 _ rfl, _, _, _, get_blk b8 3 _ rfl, ?_⟩
  exact fin_ret h ((hu.keepN c2).keep (T := fun k => w0.heap.size ≤ k) c3 (fun b hb e => by have : b = q.b := e; omega) fun b hb => hb) (fun k hk => by omega) h3 cB8 c8 ⟨_, hP, by show closeS ws t j = _; unfold closeS; rw [if_pos hw]⟩

theorem in16_ok {q : Rp} {ws : List Wd} {i : Nat} (hp : PaAt q ws 23 (.row .pol) i) (w : World) (h : Rdr w q ws i) :
    Calls Tryz.prog 99 #[.pointer (some ⟨q.b, 0, none⟩), .func (.func 23) #[.pointer (some ⟨q.b, 0, none⟩)] #[]] w (endW (RetP w q ws fun r => ∃ s, Pa ws (.row .pol) i s ∧ s.next (closeS ws) = r) (BadP w q ws fun r => ∃ s, Pa ws (.row .pol) i s ∧ s.next (closeS ws) = r)) := by
  refine F99x23_calls _ ?_
  delta F99x23
  have c0 : Chg NoS w (w.alloc (.cells #[.int .i8 0, .int .i8 0, .int .u64 0, .slice none 0 0] 26)) := chg_alloc w _ _
  have b0 : (w.alloc (.cells #[.int .i8 0, .int .i8 0, .int .u64 0, .slice none 0 0] 26)).heap[w.heap.size]? = some (.cells [.int .i8 0, .int .i8 0, .int .u64 0, .slice none 0 0].toArray 26 (0, 0)) := blk_alloc w _
  have z0 : (w.alloc (.cells #[.int .i8 0, .int .i8 0, .int .u64 0, .slice none 0 0] 26)).heap.size = w.heap.size + 1 := size_alloc w _
  generalize (w.alloc (.cells #[.int .i8 0, .int .i8 0, .int .u64 0, .slice none 0 0] 26)) = w0 at c0 b0 z0 ⊢
  have h0 := h.keep c0
  have hqb := lt_of_blk h.blk
  have hbl : w.heap.size ≠ q.b := by omega
  refine Calls.thenP (hp w0 h0) ?_ fun c w' hb => BadP.from hb (toB c0 _) fun j hj => ⟨_, hj, rfl⟩
  rintro v w1 ⟨t, j, u, hP, rfl, hu, h1, c1⟩
  have cB1 := (toB c0 (OnlyB q.b)).trans c1
  have s1 := c1.size
  have b1 := c1.blk b0 hbl
  refine agg4 ?_
  refine (put4 (w := w1) (vs := [.int .i8 u.op, .int .i8 u.f, .int .u64 u.n, .slice u.b u.m u.c]) (cs := [.int .i8 0, .int .i8 0, .int .u64 0, .slice none 0 0]) (blk_alloc w1 _) (chg_alloc w1 _ _) (Nat.le_refl _) rfl (by simp [oneC]) fun w2 b2 c2 _ z2 => ?_ : setsW _ _ _ _ _)
  rw [size_alloc] at z2
  have h2 := h1.keep c2
  have cB2 := cB1.trans (toB c2 _)
  refine Calls.thenP (must_ok h2 3 [41] (by omega)) ?_ fun c w' hb => ⟨j, ⟨_, hP, by show closeS ws t j = _; unfold closeS; rw [if_neg (by simp [hb.1])]⟩, hb.2.from cB2⟩
  rintro v w3 ⟨hw, h3, c3⟩
  have cB3 := cB2.trans c3
  have bt3 := c3.blk b2 (fun e => by have : w1.heap.size = q.b := e; omega)
  have br3 := c3.blk (c2.blk b1 (fun x => x)) hbl
  refine ⟨_, get_blk bt3 0 _ rfl, _, get_blk bt3 1 _ rfl, _, get_blk bt3 2 _ rfl, _, _, _, get_blk bt3 3 _ rfl, ?_⟩
  refine (putR (vs := [.int .i8 u.op, .int .i8 u.f, .int .u64 u.n, .slice u.b u.m u.c]) br3 cB3 (Nat.le_refl _) rfl (by simp [oneC]) fun w8 b8 cB8 c8 => ?_ : setsW _ _ _ _ _)
  refine ⟨_, get_blk b8 0 _ rfl, _, get_blk b8 1 _ rfl, _, get_blk b8 2 _ rfl, _, _, _, get_blk b8 3 _ rfl, ?_⟩
  exact fin_ret h ((hu.keepN c2).keep (T := fun k => w0.heap.size ≤ k) c3 (fun b hb e => by have : b = q.b := e; omega) fun b hb => hb) (fun k hk => by omega) h3 cB8 c8 ⟨_, hP, by show closeS ws t j = _; unfold closeS; rw [if_pos hw]⟩

theorem wrap16_ok {q : Rp} {ws : List Wd} {i : Nat} (hp : ∀ i', i ≤ i' → PaAt q ws 49 (Rw.part .pol) i') : PaAt q ws 23 (.row .pol) i := by
  intro w h
  refine F23_calls _ ?_
  delta F23
  have c0 : Chg NoS w (w.alloc (.cells #[.int .i8 0, .int .i8 0, .int .u64 0, .slice none 0 0] 26)) := chg_alloc w _ _
  have b0 : (w.alloc (.cells #[.int .i8 0, .int .i8 0, .int .u64 0, .slice none 0 0] 26)).heap[w.heap.size]? = some (.cells [.int .i8 0, .int .i8 0, .int .u64 0, .slice none 0 0].toArray 26 (0, 0)) := blk_alloc w _
  have z0 : (w.alloc (.cells #[.int .i8 0, .int .i8 0, .int .u64 0, .slice none 0 0] 26)).heap.size = w.heap.size + 1 := size_alloc w _
  generalize (w.alloc (.cells #[.int .i8 0, .int .i8 0, .int .u64 0, .slice none 0 0] 26)) = w0 at c0 b0 z0 ⊢
  have h0 := h.keep c0
  have hqb := lt_of_blk h.blk
  have hbl : w.heap.size ≠ q.b := by omega
  refine Calls.thenP (row28_ok hp w0 h0) ?_ fun c w' hb => BadP.from hb (toB c0 _) fun j hj => hj
  rintro v w1 ⟨t, j, u, hP, rfl, hu, h1, c1⟩
  have cB1 := (toB c0 (OnlyB q.b)).trans c1
  have b1 := c1.blk b0 hbl
  refine agg4 ?_
  refine (putR (vs := [.int .i8 u.op, .int .i8 u.f, .int .u64 u.n, .slice u.b u.m u.c]) b1 cB1 (Nat.le_refl _) rfl (by simp [oneC]) fun w8 b8 cB8 c8 => ?_ : setsW _ _ _ _ _)
  refine ⟨_, get_blk b8 0 _ rfl, _, get_blk b8 1 _ rfl, _, get_blk b8 2 _ rfl, _, _, _, get_blk b8 3 _ rfl, ?_⟩
  exact fin_ret h hu (fun k hk => by omega) h1 cB8 c8 hP

theorem wrap28_ok {q : Rp} {ws : List Wd} {i : Nat} (hp : ∀ i', i ≤ i' → PaAt q ws 75 (Rw.part .seq) i') : PaAt q ws 49 (.row .seq) i := by
  intro w h
  refine F49_calls _ ?_
  delta F49
  have c0 : Chg NoS w (w.alloc (.cells #[.int .i8 0, .int .i8 0, .int .u64 0, .slice none 0 0] 26)) := chg_alloc w _ _
  have b0 : (w.alloc (.cells #[.int .i8 0, .int .i8 0, .int .u64 0, .slice none 0 0] 26)).heap[w.heap.size]? = some (.cells [.int .i8 0, .int .i8 0, .int .u64 0, .slice none 0 0].toArray 26 (0, 0)) := blk_alloc w _
  have z0 : (w.alloc (.cells #[.int .i8 0, .int .i8 0, .int .u64 0, .slice none 0 0] 26)).heap.size = w.heap.size + 1 := size_alloc w _
  generalize (w.alloc (.cells #[.int .i8 0, .int .i8 0, .int .u64 0, .slice none 0 0] 26)) = w0 at c0 b0 z0 ⊢
  have h0 := h.keep c0
  have hqb := lt_of_blk h.blk
  have hbl : w.heap.size ≠ q.b := by omega
  refine Calls.thenP (row51_ok hp w0 h0) ?_ fun c w' hb => BadP.from hb (toB c0 _) fun j hj => hj
  rintro v w1 ⟨t, j, u, hP, rfl, hu, h1, c1⟩
  have cB1 := (toB c0 (OnlyB q.b)).trans c1
  have b1 := c1.blk b0 hbl
  refine agg4 ?_
  refine (putR (vs := [.int .i8 u.op, .int .i8 u.f, .int .u64 u.n, .slice u.b u.m u.c]) b1 cB1 (Nat.le_refl _) rfl (by simp [oneC]) fun w8 b8 cB8 c8 => ?_ : setsW _ _ _ _ _)
  refine ⟨_, get_blk b8 0 _ rfl, _, get_blk b8 1 _ rfl, _, get_blk b8 2 _ rfl, _, _, _, get_blk b8 3 _ rfl, ?_⟩
  exact fin_ret h hu (fun k hk => by omega) h1 cB8 c8 hP

theorem wrap30_ok {q : Rp} {ws : List Wd} {i : Nat} (hp : ∀ i', i ≤ i' → PaAt q ws 76 (Rw.part .pred) i') : PaAt q ws 51 (.row .pred) i := by
  intro w h
  refine F51_calls _ ?_
  delta F51
  have c0 : Chg NoS w (w.alloc (.cells #[.int .i8 0, .int .i8 0, .int .u64 0, .slice none 0 0] 26)) := chg_alloc w _ _
  have b0 : (w.alloc (.cells #[.int .i8 0, .int .i8 0, .int .u64 0, .slice none 0 0] 26)).heap[w.heap.size]? = some (.cells [.int .i8 0, .int .i8 0, .int .u64 0, .slice none 0 0].toArray 26 (0, 0)) := blk_alloc w _
  have z0 : (w.alloc (.cells #[.int .i8 0, .int .i8 0, .int .u64 0, .slice none 0 0] 26)).heap.size = w.heap.size + 1 := size_alloc w _
  generalize (w.alloc (.cells #[.int .i8 0, .int .i8 0, .int .u64 0, .slice none 0 0] 26)) = w0 at c0 b0 z0 ⊢
  have h0 := h.keep c0
  have hqb := lt_of_blk h.blk
  have hbl : w.heap.size ≠ q.b := by omega
  refine Calls.thenP (row52_ok hp w0 h0) ?_ fun c w' hb => BadP.from hb (toB c0 _) fun j hj => hj
  rintro v w1 ⟨t, j, u, hP, rfl, hu, h1, c1⟩
  have cB1 := (toB c0 (OnlyB q.b)).trans c1
  have b1 := c1.blk b0 hbl
  refine agg4 ?_
  refine (putR (vs := [.int .i8 u.op, .int .i8 u.f, .int .u64 u.n, .slice u.b u.m u.c]) b1 cB1 (Nat.le_refl _) rfl (by simp [oneC]) fun w8 b8 cB8 c8 => ?_ : setsW _ _ _ _ _)
  refine ⟨_, get_blk b8 0 _ rfl, _, get_blk b8 1 _ rfl, _, get_blk b8 2 _ rfl, _, _, _, get_blk b8 3 _ rfl, ?_⟩
  exact fin_ret h hu (fun k hk => by omega) h1 cB8 c8 hP

theorem wrap52_ok {q : Rp} {ws : List Wd} {i : Nat} (hp : ∀ i', i ≤ i' → PaAt q ws 92 (Rw.part .and) i') : PaAt q ws 76 (.row .and) i := by
  intro w h
  refine F76_calls _ ?_
  delta F76
  have c0 : Chg NoS w (w.alloc (.cells #[.int .i8 0, .int .i8 0, .int .u64 0, .slice none 0 0] 26)) := chg_alloc w _ _
  have b0 : (w.alloc (.cells #[.int .i8 0, .int .i8 0, .int .u64 0, .slice none 0 0] 26)).heap[w.heap.size]? = some (.cells [.int .i8 0, .int .i8 0, .int .u64 0, .slice none 0 0].toArray 26 (0, 0)) := blk_alloc w _
  have z0 : (w.alloc (.cells #[.int .i8 0, .int .i8 0, .int .u64 0, .slice none 0 0] 26)).heap.size = w.heap.size + 1 := size_alloc w _
  generalize (w.alloc (.cells #[.int .i8 0, .int .i8 0, .int .u64 0, .slice none 0 0] 26)) = w0 at c0 b0 z0 ⊢
  have h0 := h.keep c0
  have hqb := lt_of_blk h.blk
  have hbl : w.heap.size ≠ q.b := by omega
  refine Calls.thenP (row69_ok hp w0 h0) ?_ fun c w' hb => BadP.from hb (toB c0 _) fun j hj => hj
  rintro v w1 ⟨t, j, u, hP, rfl, hu, h1, c1⟩
  have cB1 := (toB c0 (OnlyB q.b)).trans c1
  have b1 := c1.blk b0 hbl
  refine agg4 ?_
  refine (putR (vs := [.int .i8 u.op, .int .i8 u.f, .int .u64 u.n, .slice u.b u.m u.c]) b1 cB1 (Nat.le_refl _) rfl (by simp [oneC]) fun w8 b8 cB8 c8 => ?_ : setsW _ _ _ _ _)
  refine ⟨_, get_blk b8 0 _ rfl, _, get_blk b8 1 _ rfl, _, get_blk b8 2 _ rfl, _, _, _, get_blk b8 3 _ rfl, ?_⟩
  exact fin_ret h hu (fun k hk => by omega) h1 cB8 c8 hP

theorem not_ok {q : Rp} {ws : List Wd} {i : Nat} (hn : PaAt q ws 92 .not (i + 1)) (hp : PaAt q ws 51 (.row .pred) (i + 1)) : PaAt q ws 92 .not i := by
  intro w h
  refine F92_calls _ ?_
  delta F92
  have c0 : Chg NoS w (w.alloc (.cells #[.int .i8 0, .int .i8 0, .int .u64 0, .slice none 0 0] 26)) := chg_alloc w _ _
  have b0 : (w.alloc (.cells #[.int .i8 0, .int .i8 0, .int .u64 0, .slice none 0 0] 26)).heap[w.heap.size]? = some (.cells [.int .i8 0, .int .i8 0, .int .u64 0, .slice none 0 0].toArray 26 (0, 0)) := blk_alloc w _
  have z0 : (w.alloc (.cells #[.int .i8 0, .int .i8 0, .int .u64 0, .slice none 0 0] 26)).heap.size = w.heap.size + 1 := size_alloc w _
  generalize (w.alloc (.cells #[.int .i8 0, .int .i8 0, .int .u64 0, .slice none 0 0] 26)) = w0 at c0 b0 z0 ⊢
  have h0 := h.keep c0
  have hqb := lt_of_blk h.blk
  have hbl : w.heap.size ≠ q.b := by omega
  refine Calls.then (take_ok h0 3 [33] (by omega)) ?_
  rintro v w1 ⟨rfl, h1, c1⟩
  have cB1 := (toB c0 (OnlyB q.b)).trans c1
  have b1 := c1.blk b0 hbl
  have s1 := c1.size
  refine ⟨_, rfl, ?_⟩
  cases hw1 : isW ws i 3 [33] with
  | true =>
    rw [hw1, if_pos rfl] at h1
    rw [if_pos rfl]
    refine Calls.thenP (hn w1 h1) ?_ fun c w' hb => BadP.from hb cB1 fun j hj => Pa.one (by simp) hj fun f hf => by rw [pa, if_pos hw1, hf]; rfl
    rintro v w2 ⟨t, j, u, hP, rfl, hu, h2, c2⟩
    have cB2 := cB1.trans c2
    have b2 := c2.blk b1 hbl
    have s2 := c2.size
    refine agg4 ?_
    have ca := chg_alloc w2 (.cells #[.int .i8 u.op, .int .i8 u.f, .int .u64 u.n, .slice u.b u.m u.c] 26) NoS
    have ba := blk_alloc w2 (.cells #[.int .i8 u.op, .int .i8 u.f, .int .u64 u.n, .slice u.b u.m u.c] 26)
    generalize w2.alloc (.cells #[.int .i8 u.op, .int .i8 u.f, .int .u64 u.n, .slice u.b u.m u.c] 26) = w3 at ca ba ⊢
    refine Calls.then (of_ok w3 3 _ 1 1) ?_
    rintro v w4 ⟨rfl, c4⟩
    have c24 := ca.trans c4
    refine agg4 ?_
    refine (putR (vs := [.int .i8 3, .int .i8 0, .int .u64 0, .slice (some ⟨w2.heap.size, 0, none⟩) 1 1]) (c24.blk b2 (fun x => x)) (cB2.trans (toB c24 _)) (Nat.le_refl _) rfl (by simp [oneC]) fun w8 b8 cB8 c8 => ?_ : setsW _ _ _ _ _)
    refine ⟨_, get_blk b8 0 _ rfl, _, get_blk b8 1 _ rfl, _, get_blk b8 2 _ rfl, _, _, _, get_blk b8 3 _ rfl, ?_⟩
    exact fin_ret (S := fun k => w0.heap.size ≤ k) h (own_one (by omega) (c4.blk ba (fun x => x)) ((hu.keepN c24).mono fun b hb => by omega) (by omega)) (fun k hk => by omega) (h2.keep c24) cB8 c8 (Pa.one (by simp) hP fun f hf => by rw [pa, if_pos hw1, hf]; rfl)
  | false =>
    rw [hw1, if_neg (by simp)] at h1
    rw [if_neg (by simp)]
    have n1 : ¬ isW ws i 3 [33] = true := by simp [hw1]
    refine Calls.then (take_ok h1 1 [116, 114, 117, 101] (by omega)) ?_
    rintro v w2 ⟨rfl, h2, c2⟩
    have cB2 := cB1.trans c2
    have b2 := c2.blk b1 hbl
    have s2 := c2.size
    refine ⟨_, rfl, ?_⟩
    cases hw2 : isW ws i 1 [116, 114, 117, 101] with
    | true =>
      rw [hw2, if_pos rfl] at h2
      rw [if_pos rfl]
      refine Calls.then (of_ok w2 1 _ 0 0) ?_
      rintro v w4 ⟨rfl, c4⟩
      refine agg4 ?_
      refine (putR (vs := [.int .i8 1, .int .i8 0, .int .u64 0, .slice none 0 0]) (c4.blk b2 (fun x => x)) (cB2.trans (toB c4 _)) (Nat.le_refl _) rfl (by simp [oneC]) fun w8 b8 cB8 c8 => ?_ : setsW _ _ _ _ _)
      refine ⟨_, get_blk b8 0 _ rfl, _, get_blk b8 1 _ rfl, _, get_blk b8 2 _ rfl, _, _, _, get_blk b8 3 _ rfl, ?_⟩
      exact fin_ret (S := fun k => w0.heap.size ≤ k) h (own_bare w4 _ (by omega)) (fun k hk => by omega) (h2.keep c4) cB8 c8 ⟨by simp, 1, by rw [pa, if_neg n1, if_pos hw2]⟩
    | false =>
      rw [hw2, if_neg (by simp)] at h2
      rw [if_neg (by simp)]
      have n2 : ¬ isW ws i 1 [116, 114, 117, 101] = true := by simp [hw2]
      refine Calls.then (take_ok h2 1 [102, 97, 108, 115, 101] (by omega)) ?_
      rintro v w3 ⟨rfl, h3, c3⟩
      have cB3 := cB2.trans c3
      have b3 := c3.blk b2 hbl
      have s3 := c3.size
      refine ⟨_, rfl, ?_⟩
      cases hw3 : isW ws i 1 [102, 97, 108, 115, 101] with
      | true =>
        rw [hw3, if_pos rfl] at h3
        rw [if_pos rfl]
        refine Calls.then (of_ok w3 0 _ 0 0) ?_
        rintro v w4 ⟨rfl, c4⟩
        refine agg4 ?_
        refine (putR (vs := [.int .i8 0, .int .i8 0, .int .u64 0, .slice none 0 0]) (c4.blk b3 (fun x => x)) (cB3.trans (toB c4 _)) (Nat.le_refl _) rfl (by simp [oneC]) fun w8 b8 cB8 c8 => ?_ : setsW _ _ _ _ _)
        refine ⟨_, get_blk b8 0 _ rfl, _, get_blk b8 1 _ rfl, _, get_blk b8 2 _ rfl, _, _, _, get_blk b8 3 _ rfl, ?_⟩
        exact fin_ret (S := fun k => w0.heap.size ≤ k) h (own_bare w4 _ (by omega)) (fun k hk => by omega) (h3.keep c4) cB8 c8 ⟨by simp, 1, by rw [pa, if_neg n1, if_neg n2, if_pos hw3]⟩
      | false =>
        rw [hw3, if_neg (by simp)] at h3
        rw [if_neg (by simp)]
        have n3 : ¬ isW ws i 1 [102, 97, 108, 115, 101] = true := by simp [hw3]
        refine Calls.then (take_ok h3 3 [40] (by omega)) ?_
        rintro v w4 ⟨rfl, h4, c4⟩
        have cB4 := cB3.trans c4
        have b4 := c4.blk b3 hbl
        have s4 := c4.size
        refine ⟨_, rfl, ?_⟩
        cases hw4 : isW ws i 3 [40] with
        | true =>
          rw [hw4, if_pos rfl] at h4
          rw [if_pos rfl]
          have lift : ∀ r, r ≠ .out → (∃ s, Pa ws (.row .pred) (i + 1) s ∧ s.next (closeS ws) = r) → Pa ws .not i r := fun r hr ⟨s, hs, e⟩ => Pa.one hr hs fun f hf => by rw [pa, if_neg n1, if_neg n2, if_neg n3, if_pos hw4, hf]; exact e
          refine Calls.thenP (in30_ok hp w4 h4) ?_ fun c w' hb => BadP.from hb cB4 fun j hj => lift _ (by simp) hj
          rintro v w5 ⟨t, j, u, hP, rfl, hu, h5, c5⟩
          have cB5 := cB4.trans c5
          refine agg4 ?_
          refine (putR (vs := [.int .i8 u.op, .int .i8 u.f, .int .u64 u.n, .slice u.b u.m u.c]) (c5.blk b4 hbl) cB5 (Nat.le_refl _) rfl (by simp [oneC]) fun w8 b8 cB8 c8 => ?_ : setsW _ _ _ _ _)
          refine ⟨_, get_blk b8 0 _ rfl, _, get_blk b8 1 _ rfl, _, get_blk b8 2 _ rfl, _, _, _, get_blk b8 3 _ rfl, ?_⟩
          exact fin_ret h hu (fun k hk => by omega) h5 cB8 c8 (lift _ (by simp) hP)
        | false =>
          rw [hw4, if_neg (by simp)] at h4
          rw [if_neg (by simp)]
          have n4 : ¬ isW ws i 3 [40] = true := by simp [hw4]
          have lift : ∀ r, r ≠ .out → pairS ws 2 [61] i = r → Pa ws .not i r := fun r hr e => ⟨hr, 1, by rw [pa, if_neg n1, if_neg n2, if_neg n3, if_neg n4]; exact e⟩
          refine Calls.thenP (pair_ok h4 2 (by omega) [61]) ?_ fun c w' hb => BadP.from hb cB4 fun j hj => lift _ (by simp) hj
          rintro v w5 ⟨t, j, u, hP, rfl, hu, h5, c5⟩
          have cB5 := cB4.trans c5
          refine agg4 ?_
          refine (putR (vs := [.int .i8 u.op, .int .i8 u.f, .int .u64 u.n, .slice u.b u.m u.c]) (c5.blk b4 hbl) cB5 (Nat.le_refl _) rfl (by simp [oneC]) fun w8 b8 cB8 c8 => ?_ : setsW _ _ _ _ _)
          refine ⟨_, get_blk b8 0 _ rfl, _, get_blk b8 1 _ rfl, _, get_blk b8 2 _ rfl, _, _, _, get_blk b8 3 _ rfl, ?_⟩
          exact fin_ret h hu (fun k hk => by omega) h5 cB8 c8 (lift _ (by simp) hP)
theorem star_ok {q : Rp} {ws : List Wd} {i : Nat} (ha : PaAt q ws 90 .atom i) : PaAt q ws 75 .star i := by
  intro w h
  refine F75_calls _ ?_
  delta F75
  have c0 : Chg NoS w (w.alloc (.cells #[.int .i8 0, .int .i8 0, .int .u64 0, .slice none 0 0] 26)) := chg_alloc w _ _
  have b0 : (w.alloc (.cells #[.int .i8 0, .int .i8 0, .int .u64 0, .slice none 0 0] 26)).heap[w.heap.size]? = some (.cells [.int .i8 0, .int .i8 0, .int .u64 0, .slice none 0 0].toArray 26 (0, 0)) := blk_alloc w _
  have z0 : (w.alloc (.cells #[.int .i8 0, .int .i8 0, .int .u64 0, .slice none 0 0] 26)).heap.size = w.heap.size + 1 := size_alloc w _
  generalize (w.alloc (.cells #[.int .i8 0, .int .i8 0, .int .u64 0, .slice none 0 0] 26)) = w0 at c0 b0 z0 ⊢
  have h0 := h.keep c0
  have hqb := lt_of_blk h.blk
  have hbl : w.heap.size ≠ q.b := by omega
  refine Calls.thenP (ha w0 h0) ?_ fun c w' hb => BadP.from hb (toB c0 _) fun j hj => Pa.star_bad hj
  rintro v w1 ⟨t, j, u, hP, rfl, hu, h1, c1⟩
  have cB1 := (toB c0 (OnlyB q.b)).trans c1
  have s1 := c1.size
  have b1 := c1.blk b0 hbl
  refine agg4 ?_
  refine (put4 (w := w1) (vs := [.int .i8 u.op, .int .i8 u.f, .int .u64 u.n, .slice u.b u.m u.c]) (cs := [.int .i8 0, .int .i8 0, .int .u64 0, .slice none 0 0]) (blk_alloc w1 _) (chg_alloc w1 _ _) (Nat.le_refl _) rfl (by simp [oneC]) fun w2 b2 c2 _ z2 => ?_ : setsW _ _ _ _ _)
  rw [size_alloc] at z2
  generalize hg : w1.heap.size = g at b2 z2 s1 ⊢
  refine ⟨fun _ w3 => ∃ (j : Nat) (t : Tm) (u : V4), (∀ r, Pa ws (.stars t) j r → Pa ws .star i r) ∧ Rdr w3 q ws j ∧ w3.heap[g]? = some (.cells [.int .i8 u.op, .int .i8 u.f, .int .u64 u.n, .slice u.b u.m u.c].toArray 26 (0, 0)) ∧ u.own w3 (fun k => w0.heap.size ≤ k ∧ k ≠ g) t ∧ Chg (OnlyB q.b) w w3 ∧ w3.heap[w.heap.size]? = some (.cells [.int .i8 0, .int .i8 0, .int .u64 0, .slice none 0 0].toArray 26 (0, 0)), fun _ w3 => ws.length - rpos w3 q.b, ⟨(), trivial, j, t, u, fun r hr => Pa.star hP hr, h1.keep c2, b2, (hu.lt.keepN c2).mono fun b hb => ⟨hb.1, by have := hb.2; omega⟩, cB1.trans (toB c2 _), c2.blk b1 fun x => x⟩, ?_⟩
  rintro _ w3 ⟨j, t, u, hrest, h3, b3, hu3, c3, r3⟩ _
  have s3 := lt_of_blk b3
  refine Calls.then (take_ok h3 3 [42] (by omega)) ?_
  rintro v w4 ⟨rfl, h4, c4⟩
  have hgq : g ≠ q.b := by omega
  have cB4 := c3.trans c4
  have b4 := c4.blk b3 hgq
  have r4 := c4.blk r3 hbl
  have s4 := c4.size
  have hu4 := hu3.keep (T := fun k => w0.heap.size ≤ k ∧ k ≠ g) c4 (fun b hb e => by have : b = q.b := e; omega) fun b hb => hb
  refine ⟨_, rfl, ?_⟩
  cases hw : isW ws j 3 [42] with
  | true =>
    rw [hw, if_pos rfl] at h4
    rw [if_pos rfl]
    refine ⟨_, get_blk b4 0 _ rfl, _, get_blk b4 1 _ rfl, _, get_blk b4 2 _ rfl, _, _, _, get_blk b4 3 _ rfl, ?_⟩
    have ca := chg_alloc w4 (.cells #[.int .i8 u.op, .int .i8 u.f, .int .u64 u.n, .slice u.b u.m u.c] 26) NoS
    have ba := blk_alloc w4 (.cells #[.int .i8 u.op, .int .i8 u.f, .int .u64 u.n, .slice u.b u.m u.c] 26)
    generalize w4.alloc (.cells #[.int .i8 u.op, .int .i8 u.f, .int .u64 u.n, .slice u.b u.m u.c] 26) = w5 at ca ba ⊢
    refine Calls.then (of_ok w5 10 _ 1 1) ?_
    rintro v w6 ⟨rfl, c6⟩
    have c46 := ca.trans c6
    refine agg4 ?_
    have hown6 : V4.own ⟨10, 0, 0, some ⟨w4.heap.size, 0, none⟩, 1, 1⟩ w6 (fun k => w0.heap.size ≤ k ∧ k ≠ g) (.mk 10 0 0 [t]) := own_one (by omega) (c6.blk ba (fun x => x)) (hu4.keepN c46) ⟨by omega, by omega⟩
    refine (putR (w := w) (q := q) (vs := [.int .i8 10, .int .i8 0, .int .u64 0, .slice (some ⟨w4.heap.size, 0, none⟩) 1 1]) (c46.blk b4 (fun x => x)) (cB4.trans (toB c46 _)) (by omega) rfl (by simp [oneC]) fun w8 b8 cB8 c8 => ?_ : setsW _ _ _ _ _)
    have h8 : Rdr w8 q ws (j + 1) := (h4.keep c46).keep2 c8 h (by omega)
    have hjl := h3.lt
    refine ⟨(), trivial, ⟨j + 1, .mk 10 0 0 [t], ⟨10, 0, 0, some ⟨w4.heap.size, 0, none⟩, 1, 1⟩, fun r hr => hrest r (Pa.stars_go hw hr), h8, b8, hown6.keep c8 (fun b hb e => hb.2 e) (fun b hb => hb), cB8, c8.blk (c46.blk r4 (fun x => x)) (fun e => by have : w.heap.size = g := e; omega)⟩, ?_⟩
    dsimp only
    rw [rpos_rdr h8, rpos_rdr h3]
    omega
  | false =>
    rw [hw, if_neg (by simp)] at h4
    rw [if_neg (by simp)]
    refine ⟨_, get_blk b4 0 _ rfl, _, get_blk b4 1 _ rfl, _, get_blk b4 2 _ rfl, _, _, _, get_blk b4 3 _ rfl, ?_⟩
    refine (putR (vs := [.int .i8 u.op, .int .i8 u.f, .int .u64 u.n, .slice u.b u.m u.c]) r4 cB4 (Nat.le_refl _) rfl (by simp [oneC]) fun w8 b8 cB8 c8 => ?_ : setsW _ _ _ _ _)
    refine ⟨_, get_blk b8 0 _ rfl, _, get_blk b8 1 _ rfl, _, get_blk b8 2 _ rfl, _, _, _, get_blk b8 3 _ rfl, ?_⟩
    exact fin_ret h hu4 (fun k hk => by have := hk.1; omega) h4 cB8 c8 (hrest _ (Pa.stars_end hw))
end Go.Proofs.YtpolbdakhfcilaaGreatDoor.B
