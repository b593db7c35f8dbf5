/-
  parse: Policy: the walk.
-/
import Derived.Test.YtgoanblnkdihfaaDoorPaN
set_option maxRecDepth 100000
set_option linter.unusedVariables false
set_option linter.unusedSimpArgs false
namespace Go.Proofs.YtgoanblnkdihfaaDoor.B
open Go Go.Proofs Go.Proofs.YtgoanblnkdihfaaDoorEng Go.RowKit

theorem Rdr.keepG {w w' : World} {q : Rp} {ws : List Wd} {i g : Nat} (h : Rdr w q ws i) (hc : Chg (OnlyB g) w w') (h1 : q.b ≠ g) (h2 : q.m ≠ g) (h3 : ∀ A, q.a = some A → A.block ≠ g) : Rdr w' q ws i := by
  refine ⟨hc.blk h.blk h1, { row := fun k x hx => ?_, len := h.st.len, keys := hc.blk h.st.keys h2, ne := h.st.ne, small := h.st.small, more := h.st.more, num := h.st.num }, h.lt⟩
  obtain ⟨A, e, hne, g0, g1, g2, g3⟩ := h.st.row k x hx
  have hb : ∀ j, ¬ OnlyB g (addK (addK A (k * 4)) j).block := fun j => by rw [addK_block, addK_block]; exact h3 A e
  exact ⟨A, e, hne, cell_keepS (S := NoS) g0 hc (hb 0), cell_keepS (S := NoS) g1 hc (hb 1), cell_keepS (S := NoS) g2 hc (hb 2), cell_keepS (S := NoS) g3 hc (hb 3)⟩
def LoopI (w : World) (q : Rp) (ws : List Wd) (j0 : Nat) (main : Tm) (pb eb : Nat) (w6 : World) : Prop :=
  ∃ (j : Nat) (l : List (List UInt8 × Tm)) (us : List VQ) (u : V4) (qa : Option Addr) (qc : Nat), Rdr w6 q ws j ∧ (∀ l' e b, QsR ws j l' e b → QsR ws j0 (l ++ l') e b) ∧ w6.heap[pb]? = some (.cells (parr u qa l.length qc) 31 (0, 0)) ∧ w6.heap[eb]? = some (.cells #[.nilIface] 33 (0, 0)) ∧
    w6.ownsRow (q.b + 1) 44 5 (.slice qa l.length qc) l.length (flatQ us) ∧ QO w6 (fun k => q.b < k ∧ k < w6.heap.size ∧ (Value.slice qa l.length qc).ownBlock ≠ some k) us (bsQ l) ∧ u.own w6 (fun k => q.b < k ∧ k < w6.heap.size ∧ (Value.slice qa l.length qc).ownBlock ≠ some k) main ∧ Chg NoS w w6 ∧ l.length ≤ j
theorem bsQ_len (l : List (List UInt8 × Tm)) : (bsQ l).length = l.length := by simp [bsQ]
theorem bsQ_preds (l : List (List UInt8 × Tm)) : preds (bsQ l) = l.map (·.2) := by simp [preds, bsQ]
theorem Policy_ok (w : World) (t : List UInt8) (hE : Errs w) : Calls Tryd.prog 5 #[.string (bs t)] w (endW (fun v w' => ∃ o, PolP t o ∧ RetF w o v w') (fun _ _ => False)) := by
  refine F5_calls _ ?_
  delta F5
  have cA := chg_alloc w (.cells #[.int .i8 0, .int .i8 0, .int .u64 0, .slice none 0 0, .slice none 0 0] 31) NoS
  have bA := blk_alloc w (.cells #[.int .i8 0, .int .i8 0, .int .u64 0, .slice none 0 0, .slice none 0 0] 31)
  have zA := size_alloc w (.cells #[.int .i8 0, .int .i8 0, .int .u64 0, .slice none 0 0, .slice none 0 0] 31)
  generalize w.alloc (.cells #[.int .i8 0, .int .i8 0, .int .u64 0, .slice none 0 0, .slice none 0 0] 31) = wA at cA bA zA ⊢
  have cB := chg_alloc wA (.cells #[.nilIface] 33) NoS
  have bB := blk_alloc wA (.cells #[.nilIface] 33)
  have zB := size_alloc wA (.cells #[.nilIface] 33)
  generalize wA.alloc (.cells #[.nilIface] 33) = wB at cB bB zB ⊢
  have cwB := cA.trans cB
  refine Calls.then (All_ok wB t (hE.chg cwB)) ?_
  rintro v w1 ⟨c1, hv⟩
  have p1 := c1.blk (cB.blk bA fun x => x) fun x => x
  have e1 := c1.blk bB fun x => x
  have s1 := c1.size
  have hne : w.heap.size ≠ wA.heap.size := by omega
  cases hall : allR t with
  | inr x =>
    rw [hall] at hv
    obtain ⟨b, rfl, hb0, hb⟩ := hv
    refine ⟨_, rfl, _, _, rfl, _, _, _, rfl, _, _, rfl, rfl, ?_⟩
    refine setW_blk (i := 0) e1 (by simp) rfl fun w2 e2 c2 z2 => ?_
    have p2 : w2.drew.heap[w.heap.size]? = _ := c2.blk p1 hne
    have e2d : w2.drew.heap[wA.heap.size]? = _ := e2
    refine ⟨_, by rw [cell_blk e2]; rfl, .inr ⟨_, _, rfl⟩, ?_⟩
    rw [if_pos (by rfl)]
    refine ⟨OnlyB w.heap.size, fun e => hne (Eq.symm e), _, by rw [cell_blk e2d]; rfl, ?_⟩
    refine (sets_blk (vs := [.int .i8 0, .int .i8 0, .int .u64 0, .slice none 0 0, .slice none 0 0]) p2 rfl (by simp [oneC]) fun w3 b3 c3 z3 => ?_ : setsW _ _ _ _ _)
    refine ⟨⟨c3.size, fun b hb hs => c3.block b hb hs⟩, ?_⟩
    refine setW_blk (i := 0) (c3.blk e2d fun e => hne (Eq.symm e)) (by simp) rfl fun w4 e4 c4 z4 => ?_
    unfold leaveW
    have c24 : Chg (fun k => k = w.heap.size ∨ k = wA.heap.size) w1 w4 := ((c2.mono fun k _ e => .inr e).trans ((chg_drew w2 _).trans (c3.mono fun k _ e => .inl e))).trans (c4.mono fun k _ e => .inr e)
    refine res_ok (u := u0) (c4.blk b3 hne) (by simpa using e4) ?_
    refine ⟨.fault x.1 x.2.1 x.2.2, by unfold PolP; rw [hall], (cwB.trans c1).trans2 c24 fun k hk e => by rcases e with e | e <;> omega, b, rfl, by omega, c24.blk hb fun e => by rcases e with e | e <;> omega⟩
  | inl ws =>
    rw [hall] at hv
    obtain ⟨a, n, c, rfl, ho, hn⟩ := hv
    obtain ⟨htl, r, hr, hrl, hrn, _⟩ := allR_good hall
    have hPF : ∀ o, FileP ws o → PolP t o := fun o h => by unfold PolP; rw [hall]; exact h
    refine ⟨_, rfl, _, _, rfl, _, _, _, rfl, _, _, rfl, rfl, ?_⟩
    refine setW_blk (i := 0) e1 (by simp) rfl fun w2 e2 c2 z2 => ?_
    have p2 := c2.blk p1 hne
    have e2' : w2.heap[wA.heap.size]? = some (.cells #[.nilIface] 33 (0, 0)) := by simpa using e2
    have cw2 : Chg NoS w w2 := (cwB.trans c1).trans2 c2 fun k hk e => by have : k = wA.heap.size := e; omega
    refine ⟨_, by rw [cell_blk e2']; rfl, .inl rfl, ?_⟩
    rw [if_neg (by simp [isNilI])]
    refine Calls.then (keys_ok w2) ?_
    rintro v w3 ⟨m, rfl, hm0, hm, c3⟩
    refine ⟨_, rfl, ?_⟩
    have s3 := c3.size
    have hm3 := lt_of_blk hm
    have p3 := c3.blk p2 fun x => x
    have e3 := c3.blk e2' fun x => x
    have c4 := chg_alloc w3 (.cells #[.slice a n c, .int .i64 0, .map (some m)] 53) NoS
    have b4 := blk_alloc w3 (.cells #[.slice a n c, .int .i64 0, .map (some m)] 53)
    have z4 := size_alloc w3 (.cells #[.slice a n c, .int .i64 0, .map (some m)] 53)
    generalize w3.alloc (.cells #[.slice a n c, .int .i64 0, .map (some m)] 53) = w4 at c4 b4 z4 ⊢
    have ho4 : w3.ownsRow wB.heap.size 58 4 (.slice a n c) n (wcells ws) := own_of_chg ho (c2.trans (toB c3 _)) fun k hk e => by
      have := (own_ge ho hk).1
      have : k = wA.heap.size := e
      omega
    generalize hq : (⟨w3.heap.size, a, n, c, m⟩ : Rp) = q at *
    have hqb : q.b = w3.heap.size := by rw [← hq]
    have hwlen : ws.length ≤ 70000 := by rw [hr, List.length_append]; simp; omega
    have h4 : Rdr w4 q ws 0 := by
      subst hq
      refine ⟨b4, { row := fun k x hx => ?_, len := hn, keys := c4.blk hm fun x => x, ne := by show m ≠ w3.heap.size; omega, small := hwlen, more := fun k x hx h0 => ?_, num := fun k x hx => ?_ }, by rw [hr]; simp⟩
      · obtain ⟨A, e, g0, g1, g2, g3⟩ := row_word ho4 hx
        have hlt : A.block < w3.heap.size := by
          rcases Nat.lt_or_ge (addK (addK A (k * 4)) 0).block w3.heap.size with h' | h'
          · rw [addK_block, addK_block] at h'; exact h'
          · simp [World.cell?, Array.getElem?_eq_none h'] at g0
        exact ⟨A, e, by show A.block ≠ w3.heap.size; omega, cell_keep g0 c4, cell_keep g1 c4, cell_keep g2 c4, cell_keep g3 c4⟩
      · rcases Nat.lt_or_ge k r.length with h' | h'
        · rw [hr]; simp; omega
        · rw [hr, List.getElem?_append_right h'] at hx
          rcases Nat.eq_zero_or_pos (k - r.length) with h2 | h2
          · rw [h2] at hx
            simp at hx
            subst hx
            exact absurd rfl h0
          · rw [List.getElem?_eq_none (by simp; omega)] at hx
            cases hx
      · rcases Nat.lt_or_ge k r.length with h' | h'
        · rw [hr, List.getElem?_append_left h'] at hx
          exact (hrn x (List.mem_of_getElem? hx)).1
        · rw [hr, List.getElem?_append_right h'] at hx
          rcases Nat.eq_zero_or_pos (k - r.length) with h2 | h2
          · rw [h2] at hx
            simp at hx
            subst hx
            exact Nat.zero_le _
          · rw [List.getElem?_eq_none (by simp; omega)] at hx
            cases hx
    have cw4 : Chg NoS w w4 := (cw2.trans c3).trans c4
    have p4 := c4.blk p3 fun x => x
    have e4 := c4.blk e3 fun x => x
    have s2 := c2.size
    have hpq : w.heap.size ≠ q.b := by omega
    have heq : wA.heap.size ≠ q.b := by omega
    have s2x := c2.size
    have hptr : (⟨w3.heap.size, 0, none⟩ : Addr) = ⟨q.b, 0, none⟩ := by rw [hqb]
    rw [hptr]
    have hga : ∀ A, q.a = some A → wB.heap.size ≤ A.block := fun A hA => by
      subst hq
      have hA' : a = some A := hA
      subst hA'
      exact (own_ge ho4 (k := A.block) rfl).1
    have hgm : w2.heap.size ≤ q.m := by subst hq; exact hm0
    have keepP : ∀ {wx wy : World} {j : Nat}, Rdr wx q ws j → Chg (OnlyB w.heap.size) wx wy → Rdr wy q ws j := fun {wx wy j} hx hc => hx.keepG hc hpq.symm (by omega) fun A hA => by have := hga A hA; omega
    clear ho4 ho b4 hptr p1 e1 p2 e2 e2' p3 e3 bA bB
    -- how a fault ends it
    have fin : ∀ {wx wy : World} {j : Nat} {ch : List PanicEntry} {d0 d1 d2 d3 d4 : Value}, Bad wx q ws j ch wy → Chg NoS w wx → q.b < wx.heap.size → wx.heap[w.heap.size]? = some (.cells #[d0, d1, d2, d3, d4] 31 (0, 0)) → wx.heap[wA.heap.size]? = some (.cells #[.nilIface] 33 (0, 0)) → (∀ x, ws[j]? = some x → FileP ws (.fault 160 x.pos x.txt)) →
        leaveW Tryd.prog (RSp w.heap.size wA.heap.size) (fun v w' => ∃ o, PolP t o ∧ RetF w o v w') (fun _ _ => False) [(9, [.pointer (some ⟨w.heap.size, 0, none⟩), .pointer (some ⟨wA.heap.size, 0, none⟩)])] (.panicking ch) wy := by
      rintro wx wy j ch d0 d1 d2 d3 d4 ⟨p, x, hx, rfl, hp, hf, hc⟩ hwx hsz hpx hex hfl
      have hz := hwx.size
      exact leave_fault (t := t) (fun v w' h => h) (hPF _ (hfl x hx)) (hwx.trans2 hc fun k hk e => by have : k = q.b := e; omega) (hc.blk hpx hpq) (hc.blk hex heq) (Nat.le_refl _) (by omega) hne hf (by omega) (by omega) (by omega)
    refine Calls.thenP ((levels _ 0 rfl).1 w4 h4) ?_ fun ch w' ⟨j, hP, hb⟩ => fin hb cw4 (by omega) p4 e4 fun x hx => .inl ⟨j, x, hP, hx, rfl⟩
    rintro v w5 ⟨main, j0, u, hP, rfl, hu, h5, c5⟩
    have s5 := c5.size
    have p5 := c5.blk p4 hpq
    have e5 := c5.blk e4 heq
    have cw5 : Chg NoS w w5 := cw4.trans2 c5 fun k hk e => by have : k = q.b := e; omega
    refine agg4 ?_
    refine setW_blk (b := w.heap.size) (i := 0) p5 (by simp) rfl fun x1 p51 d1 y1 => ?_
    refine setW_blk (b := w.heap.size) (i := 1) p51 (by simp) rfl fun x2 p52 d2 y2 => ?_
    refine setW_blk (b := w.heap.size) (i := 2) p52 (by simp) rfl fun x3 p53 d3 y3 => ?_
    refine setW_blk (b := w.heap.size) (i := 3) p53 (by simp) rfl fun w6 p54 d4 y4 => ?_
    have d6 : Chg (OnlyB w.heap.size) w5 w6 := ((d1.trans d2).trans d3).trans d4
    have p6 : w6.heap[w.heap.size]? = some (.cells (parr u none 0 0) 31 (0, 0)) := by rw [p54]; simp
    have z6 : w6.heap.size = w5.heap.size := by rw [y4, y3, y2, y1]
    clear p51 p52 p53 p54 d1 d2 d3 d4 y1 y2 y3 y4
    have h6 : Rdr w6 q ws j0 := keepP h5 d6
    have e6 := d6.blk e5 fun e => hne (Eq.symm e)
    have cw6 : Chg NoS w w6 := cw5.trans2 d6 fun k hk e => by have : k = w.heap.size := e; omega
    have hu6 : u.own w6 (fun k => q.b < k ∧ k < w6.heap.size ∧ (Value.slice none 0 0).ownBlock ≠ some k) main := hu.lt.keep d6 (fun b hb e => by have : b = w.heap.size := e; have := hb.1; omega) fun b hb => ⟨by have := hb.1; omega, by have := hb.2; omega, by simp [Value.ownBlock]⟩
    clear p5 e5 h5 hu
    refine ⟨fun _ w7 => LoopI w q ws j0 main w.heap.size wA.heap.size w7, fun _ w7 => ws.length - rpos w7 q.b, ⟨(), trivial, j0, [], [], u, none, 0, h6, fun l' e b h => h, p6, e6, own_nil' w6 _ 44 5, .nil, hu6, cw6, by simp⟩, ?_⟩
    clear h6 p6 e6 hu6 cw6 z6 d6
    rintro _ w7 ⟨j, l, us, u, qa, qc, h7, hQ, p7, e7, ho7, hqo7, hu7, cw7, hlj⟩ _
    have q7 := lt_of_blk h7.blk
    have hjl := h7.lt
    refine Calls.then (take_ok h7 1 cntW (by omega)) ?_
    rintro v w8 ⟨rfl, h8, c8⟩
    have s8 := c8.size
    have cw8 : Chg NoS w w8 := cw7.trans2 c8 fun k hk e => by have : k = q.b := e; omega
    have p8 := c8.blk p7 hpq
    have e8 := c8.blk e7 heq
    have hownq : ∀ k, (Value.slice qa l.length qc).ownBlock = some k → ¬ OnlyB q.b k := fun k hk e => by
      have := (own_ge ho7 hk).1
      have : k = q.b := e
      omega
    have ho8 := own_of_chg ho7 c8 hownq
    have hqo8 : QO w8 (fun k => q.b < k ∧ k < w8.heap.size ∧ (Value.slice qa l.length qc).ownBlock ≠ some k) us (bsQ l) := hqo7.keep c8 (fun b hb e => by have : b = q.b := e; omega) fun b hb => ⟨hb.1, by omega, hb.2.2⟩
    have hu8 : u.own w8 (fun k => q.b < k ∧ k < w8.heap.size ∧ (Value.slice qa l.length qc).ownBlock ≠ some k) main := hu7.keep c8 (fun b hb e => by have : b = q.b := e; omega) fun b hb => ⟨hb.1, by omega, hb.2.2⟩
    have get8 : ∀ {wx : World}, wx.heap[w.heap.size]? = some (.cells (parr u qa l.length qc) 31 (0, 0)) → ∀ k v, (parr u qa l.length qc)[k]? = some v → wx.cell? (addK ⟨w.heap.size, 0, none⟩ k) = some v := fun hb k v hv => by rw [addK_lit, Nat.zero_add, cell_blk hb]; exact hv
    refine ⟨_, rfl, ?_⟩
    cases hw : isW ws j 1 cntW with
    | true =>
      rw [hw, if_pos rfl] at h8
      rw [if_pos rfl]
      have h8d := h8.keep (chg_drew w8 NoS)
      have p8d : w8.drew.heap[w.heap.size]? = _ := p8
      obtain ⟨x, hx⟩ := h8.word
      refine ⟨OnlyB q.b, by rw [addK_block]; exact hpq, _, _, _, get8 p8d 4 _ rfl, ?_⟩
      refine Calls.thenP (query_ok h8d hx (levels _ _ rfl).2.2.2.2.1) ?_ fun ch w' ⟨j', hP', hb⟩ => fin hb (cw8.trans (chg_drew w8 _)) (by rw [size_drew]; omega) p8d e8 fun y hy => .inr ⟨main, j0, l, j', false, y, hP, by simpa using hQ [] j' false (.bad hw hP'), hy, by unfold endS; rw [if_neg (by simp)]⟩
      rintro v w9 ⟨tq, j', uq, hP', rfl, huq, h9, c9⟩
      have c89 : Chg (OnlyB q.b) w8 w9 := (chg_drew w8 _).trans c9
      have s9 := c89.size
      have hlt9 : j + 1 ≤ j' := by
        unfold Qa at hP'
        rw [hx] at hP'
        dsimp only at hP'
        split at hP'
        · split at hP'
          · have := hP'.le; omega
          · cases hP'
        · cases hP'
      refine ⟨_, rfl, _, _, rfl, _, rfl, _, _, rfl, _, rfl, _, _, rfl, _, rfl, _, _, rfl, _, rfl, _, _, rfl, _, _, _, rfl, rfl, ⟨c9.size, fun b hb hs => c9.block b hb hs⟩, ?_⟩
      have ca := chg_alloc w9 (.cells #[.string (bs x.txt), .int .i8 uq.op, .int .i8 uq.f, .int .u64 uq.n, .slice uq.b uq.m uq.c] 44) NoS
      have ba := blk_alloc w9 (.cells #[.string (bs x.txt), .int .i8 uq.op, .int .i8 uq.f, .int .u64 uq.n, .slice uq.b uq.m uq.c] 44)
      have za := size_alloc w9 (.cells #[.string (bs x.txt), .int .i8 uq.op, .int .i8 uq.f, .int .u64 uq.n, .slice uq.b uq.m uq.c] 44)
      generalize w9.alloc (.cells #[.string (bs x.txt), .int .i8 uq.op, .int .i8 uq.f, .int .u64 uq.n, .slice uq.b uq.m uq.c] 44) = w10 at ca ba za ⊢
      have c9a : Chg (OnlyB q.b) w8.drew w10 := c9.trans (toB ca _)
      have c8a : Chg (OnlyB q.b) w8 w10 := c89.trans (toB ca _)
      refine ⟨⟨c9a.size, fun b hb hs => c9a.block b hb hs⟩, ?_⟩
      have ho10 := own_of_chg ho8 c8a hownq
      have h9lt := h9.lt
      have hws := h9.st.small
      refine queries_append (base := q.b + 1) (n := l.length) (m := 1) (vs := us) (us := [(bs x.txt, uq)]) ho10 rfl (by
        have := reads_lit ba
        simpa [flatQ, qcells] using this) (fun e => by cases e) (by omega) (by omega) ?_
      intro a' c' w11 ho11 c11 hb11
      have s11 := c11.size
      have rowne : ∀ k, (Value.slice qa l.length qc).ownBlock = some k → q.b < k ∧ k < w8.heap.size := fun k hk => by
        have := own_ge ho8 hk
        omega
      have hnp : ¬ (Value.slice qa l.length qc).ownBlock = some w.heap.size := fun e => by have := (rowne _ e).1; omega
      have hnq : ¬ (Value.slice qa l.length qc).ownBlock = some q.b := fun e => by have := (rowne _ e).1; omega
      have p11 := c11.blk (c8a.blk p8 hpq) hnp
      have e11 := c11.blk (c8a.blk e8 heq) fun e => by have := (rowne _ e).1; omega
      have h11 : Rdr w11 q ws j' := by
        have h10 := h9.keep ca
        cases hob : (Value.slice qa l.length qc).ownBlock with
        | none => exact h10.keep (c11.mono fun k hk e => by rw [hob] at e; cases e)
        | some g =>
          have hg := (rowne g hob).1
          exact h10.keep2 (c11.mono fun k hk e => by rw [hob] at e; exact (Option.some.inj e).symm) h4 (by omega)
      have cw11 : Chg NoS w w11 := (cw8.trans2 c8a fun k hk e => by have : k = q.b := e; omega).trans2 c11 fun k hk e => by have := (rowne _ e).1; omega
      refine ⟨_, _, _, rfl, ?_⟩
      refine setW_blk (b := w.heap.size) (i := 4) p11 (by simp) rfl fun w12 p12 c12 z12 => ?_
      have p12' : w12.heap[w.heap.size]? = some (.cells (parr u a' (l.length + 1) c') 31 (0, 0)) := by rw [p12]; simp
      have h12 := keepP h11 c12
      have e12 := c12.blk e11 fun e => hne (Eq.symm e)
      have cw12 : Chg NoS w w12 := cw11.trans2 c12 fun k hk e => by have : k = w.heap.size := e; omega
      have c8z : Chg (fun k => (k = q.b ∨ k = w.heap.size) ∨ (Value.slice qa l.length qc).ownBlock = some k) w8 w12 := ((c8a.mono fun k _ e => .inl (.inl e)).trans2 c11 fun k _ e => .inr e).trans (c12.mono fun k _ e => .inl (.inr e))
      have s8a := c8a.size
      have ho12 := own_of_chg ho11 c12 fun k hk e => by
        have e' : k = w.heap.size := e
        rcases hb11 k hk with h | h
        · have := (rowne _ h).1; omega
        · omega
      have c9z : Chg (fun k => k = w.heap.size ∨ (Value.slice qa l.length qc).ownBlock = some k) w9 w12 := ((ca.mono fun _ _ x => x.elim).trans2 c11 fun k _ e => .inr e).trans (c12.mono fun k _ e => .inl e)
      have newset : ∀ b, (q.b < b ∧ b < w8.heap.size ∧ (Value.slice qa l.length qc).ownBlock ≠ some b) → q.b < b ∧ b < w12.heap.size ∧ (Value.slice a' (l.length + 1) c').ownBlock ≠ some b := fun b hb => ⟨hb.1, by omega, fun e => by
        rcases hb11 b e with h | h
        · exact hb.2.2 h
        · have := hb.2.1; omega⟩
      have avoid : ∀ b, (q.b < b ∧ b < w8.heap.size ∧ (Value.slice qa l.length qc).ownBlock ≠ some b) → ¬ ((b = q.b ∨ b = w.heap.size) ∨ (Value.slice qa l.length qc).ownBlock = some b) := fun b hb e => by
        rcases e with (e | e) | e
        · omega
        · omega
        · exact hb.2.2 e
      refine ⟨rfl, (), trivial, ⟨j', l ++ [(x.txt, tq)], us ++ [(bs x.txt, uq)], u, a', c', h12, fun l' e b h => ?_, by simpa using p12', e12, by simpa using ho12, ?_, ?_, cw12, by simp; omega⟩, ?_⟩
      · rw [List.append_assoc]
        exact hQ _ e b (.go hw hx hP' h)
      · have hl1 : (l ++ [(x.txt, tq)]).length = l.length + 1 := by simp
        rw [hl1]
        have : bsQ (l ++ [(x.txt, tq)]) = bsQ l ++ [(bs x.txt, tq)] := by simp [bsQ]
        rw [this]
        refine QO.append (hqo8.keep c8z avoid newset) (.cons (huq.lt.keep c9z (fun b hb e => ?_) fun b hb => ⟨?_, ?_, fun e => ?_⟩) .nil)
        · have hb1 : w8.heap.size ≤ b := hb.1
          rcases e with e | e
          · omega
          · have := (rowne _ e).2; omega
        · have hb1 : w8.heap.size ≤ b := hb.1
          omega
        · have := hb.2; omega
        · have hb1 : w8.heap.size ≤ b := hb.1
          have hb2 := hb.2
          rcases hb11 b e with h | h
          · have := (rowne _ h).2; omega
          · omega
      · have hl1 : (l ++ [(x.txt, tq)]).length = l.length + 1 := by simp
        rw [hl1]
        exact hu8.keep c8z avoid newset
      · dsimp only
        rw [rpos_rdr h12, rpos_rdr h7]
        omega
    | false =>
      rw [hw, if_neg (by simp)] at h8
      rw [if_neg (by simp)]
      obtain ⟨x, hx⟩ := h8.word
      have hQe : QsR ws j0 l j true := by simpa using hQ [] j true (.stop hw)
      refine Calls.then (next_ok h8 hx) ?_
      rintro v w9 ⟨rfl, c9⟩
      have h9 := h8.keep c9
      have p9 := c9.blk p8 fun x => x
      have e9 := c9.blk e8 fun x => x
      have s9 := c9.size
      refine aggW ?_
      by_cases hk : x.kind = 0
      · rw [if_neg (by simp [hk])]
        refine ⟨_, get8 p9 0 _ rfl, _, get8 p9 1 _ rfl, _, get8 p9 2 _ rfl, _, _, _, get8 p9 3 _ rfl, _, _, _, get8 p9 4 _ rfl, ?_⟩
        have ho9 := own_of_chg ho8 c9 fun _ _ x => x
        have hqs := (hqo8.keepN c9).at (a := qa) fun k u hu => own_cell ho9 hu
        have hsm := small_ok (qc := qc) (hu8.keepN c9).is hqs (by rw [bsQ_len]; omega)
        rw [bsQ_len, bsQ_preds] at hsm
        refine Calls.then hsm ?_
        rintro v w10 ⟨rfl, c10⟩
        have p10 := c10.blk p9 fun x => x
        have e10 := c10.blk e9 fun x => x
        have cw10 : Chg NoS w w10 := (cw8.trans c9).trans c10
        have s10 := c10.size
        refine ⟨_, rfl, ?_⟩
        have hfile : ∀ o, o = endS main l x true → PolP t o := fun o ho => hPF o (.inr ⟨main, j0, l, j, true, x, hP, hQe, hx, ho⟩)
        unfold endS at hfile
        rw [if_pos ⟨rfl, hk⟩] at hfile
        cases hb : smallS (main :: l.map (·.2)) with
        | true =>
          rw [hb, if_pos rfl] at hfile
          rw [if_neg (by simp)]
          refine ⟨_, get8 p10 0 _ rfl, _, get8 p10 1 _ rfl, _, get8 p10 2 _ rfl, _, _, _, get8 p10 3 _ rfl, _, _, _, get8 p10 4 _ rfl, ?_⟩
          refine (sets_blk (vs := [.int .i8 u.op, .int .i8 u.f, .int .u64 u.n, .slice u.b u.m u.c, .slice qa l.length qc]) p10 rfl (by simp [oneC]) fun w11 p11 c11 z11 => ?_ : setsW _ _ _ _ _)
          refine setW_blk (b := wA.heap.size) (i := 0) (c11.blk e10 fun e => hne (Eq.symm e)) (by simp) rfl fun w12 e12 c12 z12 => ?_
          have cc : Chg (fun k => k = w.heap.size ∨ k = wA.heap.size) w10 w12 := (c11.mono fun k _ e => .inl e).trans (c12.mono fun k _ e => .inr e)
          refine leave_idle (res_ok (u := u) (c12.blk p11 hne) (by simpa using e12) ?_)
          have hu12 : u.own w12 (fun _ => True) main := ((hu8.keepN c9).keepN c10).keep cc (fun b hb e => by rcases e with e | e <;> omega) fun _ _ => trivial
          have hq12 : QO w12 (fun _ => True) us (bsQ l) := ((hqo8.keepN c9).keepN c10).keep cc (fun b hb e => by rcases e with e | e <;> omega) fun _ _ => trivial
          have ho12 := own_of_chg (own_of_chg ho9 c10 fun _ _ x => x) cc fun k hk e => by
            have := (own_ge ho7 hk).1
            rcases e with e | e <;> omega
          exact ⟨.ok main l, hfile _ rfl, cw10.trans2 cc fun k hk e => by rcases e with e | e <;> omega, u, qa, qc, rfl, hu12.is, hq12.at fun k u hu => own_cell ho12 hu, by omega⟩
        | false =>
          rw [hb, if_neg (by simp)] at hfile
          rw [if_pos (by rfl)]
          have cf := chg_alloc w10 (.cells #[.int .i64 200, .int .i64 0, .string { data := #[] }] 62) NoS
          have bf := blk_alloc w10 (.cells #[.int .i64 200, .int .i64 0, .string { data := #[] }] 62)
          generalize w10.alloc (.cells #[.int .i64 200, .int .i64 0, .string { data := #[] }] 62) = w11 at cf bf ⊢
          have p11 := cf.blk p10 fun x => x
          have e11 := cf.blk e10 fun x => x
          refine (sets_blk (vs := [.int .i8 0, .int .i8 0, .int .u64 0, .slice none 0 0, .slice none 0 0]) p11 rfl (by simp [oneC]) fun w12 p12 c12 z12 => ?_ : setsW _ _ _ _ _)
          refine setW_blk (b := wA.heap.size) (i := 0) (c12.blk e11 fun e => hne (Eq.symm e)) (by simp) rfl fun w13 e13 c13 z13 => ?_
          have cc : Chg (fun k => k = w.heap.size ∨ k = wA.heap.size) w11 w13 := (c12.mono fun k _ e => .inl e).trans (c13.mono fun k _ e => .inr e)
          refine leave_idle (res_ok (u := u0) (c13.blk p12 hne) (by simpa using e13) ?_)
          exact ⟨.fault 200 0 [], hfile _ rfl, (cw10.trans cf).trans2 cc fun k hk e => by rcases e with e | e <;> omega, w10.heap.size, rfl, cw10.size, cc.blk bf fun e => by rcases e with e | e <;> omega⟩
      · rw [if_pos (by simp; omega)]
        refine (bad_ok h9).mono fun ev w' he => ?_
        cases ev with
        | returned _ => exact he.elim
        | outgrown => exact he.elim
        | panicked ch => exact fin he (cw8.trans c9) (by omega) p9 e9 fun y hy => .inr ⟨main, j0, l, j, true, y, hP, hQe, hy, by
            rw [hx] at hy
            injection hy with hy
            subst hy
            unfold endS
            rw [if_neg (by simp [hk])]⟩
end Go.Proofs.YtgoanblnkdihfaaDoor.B
