/-
  parse: rows of parts with a sign between; brackets.
-/
import Derived.Test.YtpolbdakhfcilaaGreatDoorPaD
set_option maxRecDepth 100000
set_option linter.unusedVariables false
set_option linter.unusedSimpArgs false
namespace Go.Proofs.YtpolbdakhfcilaaGreatDoor.B
open Go Go.Proofs Go.Proofs.YtpolbdakhfcilaaGreatDoorEng Go.RowKit

/-- what a function that reads a term must do at a place -/
def PaAt (q : Rp) (ws : List Wd) (g : FuncId) (lv : Lv) (i : Nat) : Prop := ∀ w, Rdr w q ws i → Calls Tryz.prog g #[.pointer (some ⟨q.b, 0, none⟩)] w (endW (RetP w q ws (Pa ws lv i)) (BadP w q ws (Pa ws lv i)))
theorem own_ge {w : World} {base : Nat} {e : TypeId} {size n : Nat} {v : Value} {xs : List Value} (h : w.ownsRow base e size v n xs) {k : Nat} (hk : v.ownBlock = some k) : base ≤ k ∧ k < w.heap.size := by
  rcases h.2 with ⟨rfl, _⟩ | ⟨g, cap, cur, rfl, hg, hh, _⟩
  · cases hk
  · have : g = k := Option.some.inj hk
    subst this
    exact ⟨hg, lt_of_blk hh⟩
theorem rpos_rdr {w : World} {q : Rp} {ws : List Wd} {i : Nat} (h : Rdr w q ws i) : rpos w q.b = i := by
  unfold rpos
  rw [h.blk]
  simp
theorem mkRow_many {k : Rw} {ts : List Tm} (h : ts.length ≠ 1) : mkRow k ts = .mk (k.op : Int) 0 0 ts := by
  cases ts with
  | nil => rfl
  | cons a r =>
    cases r with
    | nil => simp at h
    | cons b r => rfl
theorem BadP.from {w0 w w' : World} {q : Rp} {ws : List Wd} {P P0 : Pr → Prop} {c : List PanicEntry} (h : BadP w q ws P c w') (hc : Chg (OnlyB q.b) w0 w) (hp : ∀ j, P (.bad j) → P0 (.bad j)) : BadP w0 q ws P0 c w' := by
  obtain ⟨j, h1, h2⟩ := h
  exact ⟨j, hp j h1, h2.from hc⟩
def RowI (w : World) (q : Rp) (ws : List Wd) (k : Rw) (i base : Nat) (s : Option Addr × Nat × Nat) (w2 : World) : Prop :=
  ∃ (j : Nat) (ts : List Tm) (us : List V4), s.2.1 = ts.length ∧ 0 < ts.length ∧ (∀ r, Pa ws (.rest k ts) j r → Pa ws (.row k) i r) ∧ i ≤ j ∧ ts.length + i ≤ j + 1 ∧ Rdr w2 q ws j ∧ w2.ownsRow base 26 4 (.slice s.1 s.2.1 s.2.2) s.2.1 (flat us) ∧
    VO w2 (fun b => base ≤ b ∧ b < w2.heap.size ∧ (Value.slice s.1 s.2.1 s.2.2).ownBlock ≠ some b) us ts ∧ Chg (OnlyB q.b) w w2 ∧ w2.heap[w.heap.size]? = some (.cells [.int .i8 0, .int .i8 0, .int .u64 0, .slice none 0 0].toArray 26 (0, 0))
mutual
theorem TO.lt {S : Nat → Prop} {w : World} : ∀ {t : Tm} {op f n : Int} {a : Option Addr} {len c : Nat}, TO w S t op f n a len c → TO w (fun b => S b ∧ b < w.heap.size) t op f n a len c
  | .mk _ _ _ ks, op, f, n, a, len, c, h => by
    simp only [TO] at h ⊢
    exact ⟨h.1, h.2.1, h.2.2.1, h.2.2.2.1, h.2.2.2.2.1, h.2.2.2.2.2.1, h.2.2.2.2.2.2.1, KO.lt h.2.2.2.2.2.2.2⟩
theorem KO.lt {S : Nat → Prop} {w : World} : ∀ {ks : List Tm} {a : Option Addr} {i : Nat}, KO w S ks a i → KO w (fun b => S b ∧ b < w.heap.size) ks a i
  | [], _, _, _ => by simp only [KO]
  | k :: ks, a, i, h => by
    simp only [KO] at h ⊢
    obtain ⟨⟨A, op, f, n, b, m, c, h1, h0, h2, h3, h4, h5, h6⟩, h7⟩ := h
    have hlt : A.block < w.heap.size := by
      obtain ⟨_, _, cs, t, hb⟩ := h0.2
      exact lt_of_blk hb
    exact ⟨⟨A, op, f, n, b, m, c, h1, ⟨⟨h0.1, hlt⟩, h0.2⟩, h2, h3, h4, h5, TO.lt h6⟩, KO.lt h7⟩
end
theorem V4.own.lt {v : V4} {w : World} {S : Nat → Prop} {t : Tm} (h : v.own w S t) : v.own w (fun b => S b ∧ b < w.heap.size) t := TO.lt h
theorem own_cap {w : World} {base : Nat} {e : TypeId} {size n c : Nat} {a : Option Addr} {xs : List Value} (h : w.ownsRow base e size (.slice a n c) n xs) : n ≤ c ∧ c ≤ 9223372036854775807 := by
  rcases h.2 with ⟨he, h0⟩ | ⟨g, cap, cur, he, hg, hh, hn, hm, hsz, ht⟩
  · injection he with h1 h2 h3
    omega
  · injection he with h1 h2 h3
    subst h3
    unfold maxLen at hm
    omega
theorem flat_cell {w : World} {base n c : Nat} {a : Option Addr} {us : List V4} (ho : w.ownsRow base 26 4 (.slice a n c) n (flat us)) : Reads w a (flat us) := fun j u hu => own_cell ho hu

theorem row28_ok {q : Rp} {ws : List Wd} {i : Nat} (hp : ∀ i', i ≤ i' → PaAt q ws 49 (Rw.part .pol) i') (w : World) (h : Rdr w q ws i) :
    Calls Tryz.prog 48 #[.pointer (some ⟨q.b, 0, none⟩), .int .i8 8, .string (bs [43]), .func (.func 49) #[.pointer (some ⟨q.b, 0, none⟩)] #[]] w (endW (RetP w q ws (Pa ws (.row .pol) i)) (BadP w q ws (Pa ws (.row .pol) i))) := by
  refine F48x49_calls _ _ _ ?_
  delta F48x49
  have c0 : Chg NoS w (w.alloc (.cells #[.int .i8 0, .int .i8 0, .int .u64 0, .slice none 0 0] 26)) := chg_alloc w _ _
  have b0 : (w.alloc (.cells #[.int .i8 0, .int .i8 0, .int .u64 0, .slice none 0 0] 26)).heap[w.heap.size]? = some (.cells [.int .i8 0, .int .i8 0, .int .u64 0, .slice none 0 0].toArray 26 (0, 0)) := blk_alloc w _
  have z0 : (w.alloc (.cells #[.int .i8 0, .int .i8 0, .int .u64 0, .slice none 0 0] 26)).heap.size = w.heap.size + 1 := size_alloc w _
  generalize (w.alloc (.cells #[.int .i8 0, .int .i8 0, .int .u64 0, .slice none 0 0] 26)) = w0 at c0 b0 z0 ⊢
  have h0 := h.keep c0
  have small := h.st.small
  have hqb := lt_of_blk h.blk
  have hbl : w.heap.size ≠ q.b := by omega
  refine Calls.thenP (hp i (Nat.le_refl _) w0 h0) ?_ fun c w' hb => BadP.from hb (toB c0 _) fun j hj => Pa.row_bad hj
  rintro v w1 ⟨t, j, u, hP, rfl, hu, h1, c1⟩
  have hij := hP.le
  have cB1 := (toB c0 (OnlyB q.b)).trans c1
  have b1 := c1.blk b0 hbl
  refine agg4 ?_
  have s1 := c1.size
  refine ⟨RowI w q ws .pol i w0.heap.size, fun _ w2 => ws.length - rpos w2 q.b, ⟨(some ⟨w1.heap.size, 0, none⟩, 1, 1), ⟨rfl, trivial⟩, j, [t], [u], rfl, by simp, fun r hr => Pa.row hP hr, hij, by simp; omega, h1.keep (chg_alloc w1 _ _), ?_, ?_, cB1.trans (toB (chg_alloc w1 _ _) _), (chg_alloc w1 _ NoS).blk b1 fun x => x⟩, ?_⟩
  · exact ⟨by simp [flat, V4.cells], .inr ⟨w1.heap.size, 1, _, rfl, s1, blk_alloc w1 _, Nat.le_refl _, by simp [maxLen], by simp, by simp [flat, V4.cells]⟩⟩
  · refine .cons (hu.lt.keep (chg_alloc w1 _ NoS) (fun _ _ x => x) fun b hb => ⟨hb.1, ?_, fun e => ?_⟩) .nil
    · rw [size_alloc]; exact Nat.lt_succ_of_lt hb.2
    · have e' : w1.heap.size = b := Option.some.inj e
      have := hb.2
      omega
  rintro ⟨a, n, c⟩ w2 ⟨j, ts, us, hn, hpos, hrest, hij, hlen, h2, ho, hvo, c2, b2⟩ _
  dsimp only at hn ho hvo ⊢
  subst hn
  have hjl := h2.lt
  have s2 := c2.size
  have s2' := lt_of_blk b2
  refine Calls.then (take_ok h2 3 [43] (by omega)) ?_
  rintro v w3 ⟨rfl, h3, c3⟩
  have s3 := c3.size
  have cB3 := c2.trans c3
  have b3 := c3.blk b2 hbl
  have hown : ∀ k, (Value.slice a ts.length c).ownBlock = some k → ¬ OnlyB q.b k := fun k hk e => by
    have := (own_ge ho hk).1
    have : k = q.b := e
    omega
  have ho3 := own_of_chg ho c3 hown
  have hvo3 : VO w3 (fun b => w0.heap.size ≤ b ∧ b < w3.heap.size ∧ (Value.slice a ts.length c).ownBlock ≠ some b) us ts := hvo.keep c3 (fun b hb e => by have : b = q.b := e; omega) fun b hb => ⟨hb.1, by omega, hb.2.2⟩
  refine ⟨_, rfl, ?_⟩
  cases hw : isW ws j 3 [43] with
  | true =>
    rw [hw, if_pos rfl] at h3
    rw [if_pos rfl]
    refine Calls.thenP (hp (j + 1) (by omega) w3 h3) ?_ fun c w' hb => BadP.from hb cB3 fun j' hj => hrest _ (Pa.rest_bad hw hj)
    rintro v w4 ⟨t', j', u', hP', rfl, hu', h4, c4⟩
    have hij' := hP'.le
    have s4 := c4.size
    refine agg4 ?_
    have ca := chg_alloc w4 (.cells #[.int .i8 u'.op, .int .i8 u'.f, .int .u64 u'.n, .slice u'.b u'.m u'.c] 26) NoS
    have za := size_alloc w4 (.cells #[.int .i8 u'.op, .int .i8 u'.f, .int .u64 u'.n, .slice u'.b u'.m u'.c] 26)
    have ba := blk_alloc w4 (.cells #[.int .i8 u'.op, .int .i8 u'.f, .int .u64 u'.n, .slice u'.b u'.m u'.c] 26)
    generalize w4.alloc (.cells #[.int .i8 u'.op, .int .i8 u'.f, .int .u64 u'.n, .slice u'.b u'.m u'.c] 26) = w5 at ca za ba ⊢
    have h5 := h4.keep ca
    have c35 : Chg (OnlyB q.b) w3 w5 := c4.trans (toB ca _)
    have cB5 := cB3.trans c35
    have b5 := c35.blk b3 hbl
    have ho5 := own_of_chg ho3 c35 hown
    have hjl' := h4.lt
    refine terms_append (base := w0.heap.size) (n := ts.length) (m := 1) (vs := us) (us := [u']) ho5 rfl (by
      have := reads_lit ba
      simpa [flat, V4.cells] using this) (fun e => by cases e) (by omega) (by omega) ?_
    intro a' c' w6 ho6 c6 hb6
    have s6 := c6.size
    have c6q : ∀ k, (Value.slice a ts.length c).ownBlock = some k → w.heap.size ≤ k ∧ k ≠ w.heap.size := fun k hk => by have := (own_ge ho hk).1; omega
    have cB6 : Chg (OnlyB q.b) w w6 := cB5.trans2 c6 fun k hk e => by have := (c6q k e).1; omega
    have b6 := c6.blk b5 fun e => (c6q _ e).2 rfl
    have h6 : Rdr w6 q ws j' := by
      cases hob : (Value.slice a ts.length c).ownBlock with
      | none => exact h5.keep (c6.mono fun k hk e => by rw [hob] at e; cases e)
      | some g => exact h5.keep2 (c6.mono fun k hk e => by rw [hob] at e; exact (Option.some.inj e).symm) h (c6q g hob).1
    refine ⟨_, _, _, rfl, (a', ts.length + 1, c'), ⟨rfl, trivial⟩, ⟨j', ts ++ [t'], us ++ [u'], by simp, by simp, fun r hr => hrest r (Pa.rest_go hw hP' hr), by omega, by simp; omega, h6, ho6, ?_, cB6, b6⟩, ?_⟩
    · have c36 : Chg (fun k => k = q.b ∨ (Value.slice a ts.length c).ownBlock = some k) w3 w6 := (c35.mono fun k _ e => .inl e).trans2 c6 fun k _ e => .inr e
      have s35 := c35.size
      refine VO.append (hvo3.keep c36 (fun b hb e => ?g1) fun b hb => ⟨hb.1, by have := hb.2.1; omega, fun e => ?g2⟩) (.cons (hu'.lt.keep ((ca.mono (T := fun k => (Value.slice a ts.length c).ownBlock = some k) fun _ _ x => x.elim).trans2 c6 fun _ _ x => x) (fun b hb e => ?g3) fun b hb => ⟨by have := hb.1; omega, by have := hb.2; omega, fun e => ?g4⟩) .nil)
      case g1 =>
        rcases e with e | e
        · omega
        · exact hb.2.2 e
      case g2 =>
        rcases hb6 b e with e | e
        · exact hb.2.2 e
        · have := hb.2.1; omega
      case g3 =>
        have := (own_ge ho3 e).2
        have := hb.1
        omega
      case g4 =>
        rcases hb6 b e with e | e
        · have := (own_ge ho3 e).2
          have := hb.1
          omega
        · have := hb.2; omega
    · rw [rpos_rdr h6, rpos_rdr h2]
      omega
  | false =>
    rw [hw, if_neg (by simp)] at h3
    rw [if_neg (by simp)]
    have hfin : Pa ws (.row .pol) i (.ok (mkRow .pol ts) j) := hrest _ (Pa.rest_end hw)
    by_cases h1l : ts.length = 1
    · rw [if_pos (by simp [h1l])]
      obtain ⟨t0, rfl⟩ := List.length_eq_one_iff.1 h1l
      obtain ⟨u0, rfl⟩ : ∃ u0, us = [u0] := List.length_eq_one_iff.1 (by rw [hvo3.len, h1l])
      have hu0 : u0.own w3 (fun b => w0.heap.size ≤ b ∧ b < w3.heap.size ∧ (Value.slice a [t0].length c).ownBlock ≠ some b) t0 := by cases hvo3 with | cons hh _ => exact hh
      have get : ∀ k u, (flat [u0])[k]? = some u → ∃ A, a = some A ∧ w3.cell? (addK A k) = some u := fun k u hu => own_cell ho3 hu
      obtain ⟨A, rfl, g0⟩ := get 0 _ rfl
      obtain ⟨_, e, g1⟩ := get 1 _ rfl
      cases e
      obtain ⟨_, e, g2⟩ := get 2 _ rfl
      cases e
      obtain ⟨_, e, g3⟩ := get 3 _ rfl
      cases e
      refine ⟨by omega, by simp, some_w ⟨_, by rw [addK_zero]; exact g0, _, by rw [addK_zero]; exact g1, _, by rw [addK_zero]; exact g2, _, _, _, by rw [addK_zero]; exact g3, ?_⟩⟩
      refine (putR (vs := [.int .i8 u0.op, .int .i8 u0.f, .int .u64 u0.n, .slice u0.b u0.m u0.c]) b3 cB3 (Nat.le_refl _) rfl (by simp [oneC]) fun w8 b8 cB8 c8 => ?_ : setsW _ _ _ _ _)
      refine ⟨_, get_blk b8 0 _ rfl, _, get_blk b8 1 _ rfl, _, get_blk b8 2 _ rfl, _, _, _, get_blk b8 3 _ rfl, t0, j, u0, hfin, rfl, hu0.keep c8 (fun b hb e => by have : b = w.heap.size := e; have := hb.1; omega) (fun b hb => by have := hb.1; omega), h3.keep2 c8 h (Nat.le_refl _), cB8⟩
    · rw [if_neg (by simp; omega)]
      refine (putR (vs := [.int .i8 8, .int .i8 0, .int .u64 0, .slice a ts.length c]) b3 cB3 (Nat.le_refl _) rfl (by simp [oneC]) fun w8 b8 cB8 c8 => ?_ : setsW _ _ _ _ _)
      rw [mkRow_many h1l] at hfin
      refine ⟨_, get_blk b8 0 _ rfl, _, get_blk b8 1 _ rfl, _, get_blk b8 2 _ rfl, _, _, _, get_blk b8 3 _ rfl, _, j, ⟨8, 0, 0, a, ts.length, c⟩, hfin, rfl, ?_, h3.keep2 c8 h (Nat.le_refl _), cB8⟩
      have ho8 := own_of_chg ho3 c8 fun k hk e => by
        have : k = w.heap.size := e
        have := (own_ge ho hk).1
        omega
      have hcap := own_cap ho8
      exact own_mk (by decide) rfl hcap.1 hcap.2 (hvo3.keep c8 (fun b hb e => by have : b = w.heap.size := e; have := hb.1; omega) (fun b hb => by have := hb.1; omega)) (flat_cell ho8) fun A hA => ⟨by subst hA; have := (own_ge ho8 (k := A.block) rfl).1; omega, own_whole ho8 A hA⟩

theorem row51_ok {q : Rp} {ws : List Wd} {i : Nat} (hp : ∀ i', i ≤ i' → PaAt q ws 75 (Rw.part .seq) i') (w : World) (h : Rdr w q ws i) :
    Calls Tryz.prog 48 #[.pointer (some ⟨q.b, 0, none⟩), .int .i8 9, .string (bs [59]), .func (.func 75) #[.pointer (some ⟨q.b, 0, none⟩)] #[]] w (endW (RetP w q ws (Pa ws (.row .seq) i)) (BadP w q ws (Pa ws (.row .seq) i))) := by
  refine F48x75_calls _ _ _ ?_
  delta F48x75
  have c0 : Chg NoS w (w.alloc (.cells #[.int .i8 0, .int .i8 0, .int .u64 0, .slice none 0 0] 26)) := chg_alloc w _ _
  have b0 : (w.alloc (.cells #[.int .i8 0, .int .i8 0, .int .u64 0, .slice none 0 0] 26)).heap[w.heap.size]? = some (.cells [.int .i8 0, .int .i8 0, .int .u64 0, .slice none 0 0].toArray 26 (0, 0)) := blk_alloc w _
  have z0 : (w.alloc (.cells #[.int .i8 0, .int .i8 0, .int .u64 0, .slice none 0 0] 26)).heap.size = w.heap.size + 1 := size_alloc w _
  generalize (w.alloc (.cells #[.int .i8 0, .int .i8 0, .int .u64 0, .slice none 0 0] 26)) = w0 at c0 b0 z0 ⊢
  have h0 := h.keep c0
  have small := h.st.small
  have hqb := lt_of_blk h.blk
  have hbl : w.heap.size ≠ q.b := by omega
  refine Calls.thenP (hp i (Nat.le_refl _) w0 h0) ?_ fun c w' hb => BadP.from hb (toB c0 _) fun j hj => Pa.row_bad hj
  rintro v w1 ⟨t, j, u, hP, rfl, hu, h1, c1⟩
  have hij := hP.le
  have cB1 := (toB c0 (OnlyB q.b)).trans c1
  have b1 := c1.blk b0 hbl
  refine agg4 ?_
  have s1 := c1.size
  refine ⟨RowI w q ws .seq i w0.heap.size, fun _ w2 => ws.length - rpos w2 q.b, ⟨(some ⟨w1.heap.size, 0, none⟩, 1, 1), ⟨rfl, trivial⟩, j, [t], [u], rfl, by simp, fun r hr => Pa.row hP hr, hij, by simp; omega, h1.keep (chg_alloc w1 _ _), ?_, ?_, cB1.trans (toB (chg_alloc w1 _ _) _), (chg_alloc w1 _ NoS).blk b1 fun x => x⟩, ?_⟩
  · exact ⟨by simp [flat, V4.cells], .inr ⟨w1.heap.size, 1, _, rfl, s1, blk_alloc w1 _, Nat.le_refl _, by simp [maxLen], by simp, by simp [flat, V4.cells]⟩⟩
  · refine .cons (hu.lt.keep (chg_alloc w1 _ NoS) (fun _ _ x => x) fun b hb => ⟨hb.1, ?_, fun e => ?_⟩) .nil
    · rw [size_alloc]; exact Nat.lt_succ_of_lt hb.2
    · have e' : w1.heap.size = b := Option.some.inj e
      have := hb.2
      omega
  rintro ⟨a, n, c⟩ w2 ⟨j, ts, us, hn, hpos, hrest, hij, hlen, h2, ho, hvo, c2, b2⟩ _
  dsimp only at hn ho hvo ⊢
  subst hn
  have hjl := h2.lt
  have s2 := c2.size
  have s2' := lt_of_blk b2
  refine Calls.then (take_ok h2 3 [59] (by omega)) ?_
  rintro v w3 ⟨rfl, h3, c3⟩
  have s3 := c3.size
  have cB3 := c2.trans c3
  have b3 := c3.blk b2 hbl
  have hown : ∀ k, (Value.slice a ts.length c).ownBlock = some k → ¬ OnlyB q.b k := fun k hk e => by
    have := (own_ge ho hk).1
    have : k = q.b := e
    omega
  have ho3 := own_of_chg ho c3 hown
  have hvo3 : VO w3 (fun b => w0.heap.size ≤ b ∧ b < w3.heap.size ∧ (Value.slice a ts.length c).ownBlock ≠ some b) us ts := hvo.keep c3 (fun b hb e => by have : b = q.b := e; omega) fun b hb => ⟨hb.1, by omega, hb.2.2⟩
  refine ⟨_, rfl, ?_⟩
  cases hw : isW ws j 3 [59] with
  | true =>
    rw [hw, if_pos rfl] at h3
    rw [if_pos rfl]
    refine Calls.thenP (hp (j + 1) (by omega) w3 h3) ?_ fun c w' hb => BadP.from hb cB3 fun j' hj => hrest _ (Pa.rest_bad hw hj)
    rintro v w4 ⟨t', j', u', hP', rfl, hu', h4, c4⟩
    have hij' := hP'.le
    have s4 := c4.size
    refine agg4 ?_
    have ca := chg_alloc w4 (.cells #[.int .i8 u'.op, .int .i8 u'.f, .int .u64 u'.n, .slice u'.b u'.m u'.c] 26) NoS
    have za := size_alloc w4 (.cells #[.int .i8 u'.op, .int .i8 u'.f, .int .u64 u'.n, .slice u'.b u'.m u'.c] 26)
    have ba := blk_alloc w4 (.cells #[.int .i8 u'.op, .int .i8 u'.f, .int .u64 u'.n, .slice u'.b u'.m u'.c] 26)
    generalize w4.alloc (.cells #[.int .i8 u'.op, .int .i8 u'.f, .int .u64 u'.n, .slice u'.b u'.m u'.c] 26) = w5 at ca za ba ⊢
    have h5 := h4.keep ca
    have c35 : Chg (OnlyB q.b) w3 w5 := c4.trans (toB ca _)
    have cB5 := cB3.trans c35
    have b5 := c35.blk b3 hbl
    have ho5 := own_of_chg ho3 c35 hown
    have hjl' := h4.lt
    refine terms_append (base := w0.heap.size) (n := ts.length) (m := 1) (vs := us) (us := [u']) ho5 rfl (by
      have := reads_lit ba
      simpa [flat, V4.cells] using this) (fun e => by cases e) (by omega) (by omega) ?_
    intro a' c' w6 ho6 c6 hb6
    have s6 := c6.size
    have c6q : ∀ k, (Value.slice a ts.length c).ownBlock = some k → w.heap.size ≤ k ∧ k ≠ w.heap.size := fun k hk => by have := (own_ge ho hk).1; omega
    have cB6 : Chg (OnlyB q.b) w w6 := cB5.trans2 c6 fun k hk e => by have := (c6q k e).1; omega
    have b6 := c6.blk b5 fun e => (c6q _ e).2 rfl
    have h6 : Rdr w6 q ws j' := by
      cases hob : (Value.slice a ts.length c).ownBlock with
      | none => exact h5.keep (c6.mono fun k hk e => by rw [hob] at e; cases e)
      | some g => exact h5.keep2 (c6.mono fun k hk e => by rw [hob] at e; exact (Option.some.inj e).symm) h (c6q g hob).1
    refine ⟨_, _, _, rfl, (a', ts.length + 1, c'), ⟨rfl, trivial⟩, ⟨j', ts ++ [t'], us ++ [u'], by simp, by simp, fun r hr => hrest r (Pa.rest_go hw hP' hr), by omega, by simp; omega, h6, ho6, ?_, cB6, b6⟩, ?_⟩
    · have c36 : Chg (fun k => k = q.b ∨ (Value.slice a ts.length c).ownBlock = some k) w3 w6 := (c35.mono fun k _ e => .inl e).trans2 c6 fun k _ e => .inr e
      have s35 := c35.size
      refine VO.append (hvo3.keep c36 (fun b hb e => ?g1) fun b hb => ⟨hb.1, by have := hb.2.1; omega, fun e => ?g2⟩) (.cons (hu'.lt.keep ((ca.mono (T := fun k => (Value.slice a ts.length c).ownBlock = some k) fun _ _ x => x.elim).trans2 c6 fun _ _ x => x) (fun b hb e => ?g3) fun b hb => ⟨by have := hb.1; omega, by have := hb.2; omega, fun e => ?g4⟩) .nil)
      case g1 =>
        rcases e with e | e
        · omega
        · exact hb.2.2 e
      case g2 =>
        rcases hb6 b e with e | e
        · exact hb.2.2 e
        · have := hb.2.1; omega
      case g3 =>
        have := (own_ge ho3 e).2
        have := hb.1
        omega
      case g4 =>
        rcases hb6 b e with e | e
        · have := (own_ge ho3 e).2
          have := hb.1
          omega
        · have := hb.2; omega
    · rw [rpos_rdr h6, rpos_rdr h2]
      omega
  | false =>
    rw [hw, if_neg (by simp)] at h3
    rw [if_neg (by simp)]
    have hfin : Pa ws (.row .seq) i (.ok (mkRow .seq ts) j) := hrest _ (Pa.rest_end hw)
    by_cases h1l : ts.length = 1
    · rw [if_pos (by simp [h1l])]
      obtain ⟨t0, rfl⟩ := List.length_eq_one_iff.1 h1l
      obtain ⟨u0, rfl⟩ : ∃ u0, us = [u0] := List.length_eq_one_iff.1 (by rw [hvo3.len, h1l])
      have hu0 : u0.own w3 (fun b => w0.heap.size ≤ b ∧ b < w3.heap.size ∧ (Value.slice a [t0].length c).ownBlock ≠ some b) t0 := by cases hvo3 with | cons hh _ => exact hh
      have get : ∀ k u, (flat [u0])[k]? = some u → ∃ A, a = some A ∧ w3.cell? (addK A k) = some u := fun k u hu => own_cell ho3 hu
      obtain ⟨A, rfl, g0⟩ := get 0 _ rfl
      obtain ⟨_, e, g1⟩ := get 1 _ rfl
      cases e
      obtain ⟨_, e, g2⟩ := get 2 _ rfl
      cases e
      obtain ⟨_, e, g3⟩ := get 3 _ rfl
      cases e
      refine ⟨by omega, by simp, some_w ⟨_, by rw [addK_zero]; exact g0, _, by rw [addK_zero]; exact g1, _, by rw [addK_zero]; exact g2, _, _, _, by rw [addK_zero]; exact g3, ?_⟩⟩
      refine (putR (vs := [.int .i8 u0.op, .int .i8 u0.f, .int .u64 u0.n, .slice u0.b u0.m u0.c]) b3 cB3 (Nat.le_refl _) rfl (by simp [oneC]) fun w8 b8 cB8 c8 => ?_ : setsW _ _ _ _ _)
      refine ⟨_, get_blk b8 0 _ rfl, _, get_blk b8 1 _ rfl, _, get_blk b8 2 _ rfl, _, _, _, get_blk b8 3 _ rfl, t0, j, u0, hfin, rfl, hu0.keep c8 (fun b hb e => by have : b = w.heap.size := e; have := hb.1; omega) (fun b hb => by have := hb.1; omega), h3.keep2 c8 h (Nat.le_refl _), cB8⟩
    · rw [if_neg (by simp; omega)]
      refine (putR (vs := [.int .i8 9, .int .i8 0, .int .u64 0, .slice a ts.length c]) b3 cB3 (Nat.le_refl _) rfl (by simp [oneC]) fun w8 b8 cB8 c8 => ?_ : setsW _ _ _ _ _)
      rw [mkRow_many h1l] at hfin
      refine ⟨_, get_blk b8 0 _ rfl, _, get_blk b8 1 _ rfl, _, get_blk b8 2 _ rfl, _, _, _, get_blk b8 3 _ rfl, _, j, ⟨9, 0, 0, a, ts.length, c⟩, hfin, rfl, ?_, h3.keep2 c8 h (Nat.le_refl _), cB8⟩
      have ho8 := own_of_chg ho3 c8 fun k hk e => by
        have : k = w.heap.size := e
        have := (own_ge ho hk).1
        omega
      have hcap := own_cap ho8
      exact own_mk (by decide) rfl hcap.1 hcap.2 (hvo3.keep c8 (fun b hb e => by have : b = w.heap.size := e; have := hb.1; omega) (fun b hb => by have := hb.1; omega)) (flat_cell ho8) fun A hA => ⟨by subst hA; have := (own_ge ho8 (k := A.block) rfl).1; omega, own_whole ho8 A hA⟩

theorem row52_ok {q : Rp} {ws : List Wd} {i : Nat} (hp : ∀ i', i ≤ i' → PaAt q ws 76 (Rw.part .pred) i') (w : World) (h : Rdr w q ws i) :
    Calls Tryz.prog 48 #[.pointer (some ⟨q.b, 0, none⟩), .int .i8 5, .string (bs [124]), .func (.func 76) #[.pointer (some ⟨q.b, 0, none⟩)] #[]] w (endW (RetP w q ws (Pa ws (.row .pred) i)) (BadP w q ws (Pa ws (.row .pred) i))) := by
  refine F48x76_calls _ _ _ ?_
  delta F48x76
  have c0 : Chg NoS w (w.alloc (.cells #[.int .i8 0, .int .i8 0, .int .u64 0, .slice none 0 0] 26)) := chg_alloc w _ _
  have b0 : (w.alloc (.cells #[.int .i8 0, .int .i8 0, .int .u64 0, .slice none 0 0] 26)).heap[w.heap.size]? = some (.cells [.int .i8 0, .int .i8 0, .int .u64 0, .slice none 0 0].toArray 26 (0, 0)) := blk_alloc w _
  have z0 : (w.alloc (.cells #[.int .i8 0, .int .i8 0, .int .u64 0, .slice none 0 0] 26)).heap.size = w.heap.size + 1 := size_alloc w _
  generalize (w.alloc (.cells #[.int .i8 0, .int .i8 0, .int .u64 0, .slice none 0 0] 26)) = w0 at c0 b0 z0 ⊢
  have h0 := h.keep c0
  have small := h.st.small
  have hqb := lt_of_blk h.blk
  have hbl : w.heap.size ≠ q.b := by omega
  refine Calls.thenP (hp i (Nat.le_refl _) w0 h0) ?_ fun c w' hb => BadP.from hb (toB c0 _) fun j hj => Pa.row_bad hj
  rintro v w1 ⟨t, j, u, hP, rfl, hu, h1, c1⟩
  have hij := hP.le
  have cB1 := (toB c0 (OnlyB q.b)).trans c1
  have b1 := c1.blk b0 hbl
  refine agg4 ?_
  have s1 := c1.size
  refine ⟨RowI w q ws .pred i w0.heap.size, fun _ w2 => ws.length - rpos w2 q.b, ⟨(some ⟨w1.heap.size, 0, none⟩, 1, 1), ⟨rfl, trivial⟩, j, [t], [u], rfl, by simp, fun r hr => Pa.row hP hr, hij, by simp; omega, h1.keep (chg_alloc w1 _ _), ?_, ?_, cB1.trans (toB (chg_alloc w1 _ _) _), (chg_alloc w1 _ NoS).blk b1 fun x => x⟩, ?_⟩
  · exact ⟨by simp [flat, V4.cells], .inr ⟨w1.heap.size, 1, _, rfl, s1, blk_alloc w1 _, Nat.le_refl _, by simp [maxLen], by simp, by simp [flat, V4.cells]⟩⟩
  · refine .cons (hu.lt.keep (chg_alloc w1 _ NoS) (fun _ _ x => x) fun b hb => ⟨hb.1, ?_, fun e => ?_⟩) .nil
    · rw [size_alloc]; exact Nat.lt_succ_of_lt hb.2
    · have e' : w1.heap.size = b := Option.some.inj e
      have := hb.2
      omega
  rintro ⟨a, n, c⟩ w2 ⟨j, ts, us, hn, hpos, hrest, hij, hlen, h2, ho, hvo, c2, b2⟩ _
  dsimp only at hn ho hvo ⊢
  subst hn
  have hjl := h2.lt
  have s2 := c2.size
  have s2' := lt_of_blk b2
  refine Calls.then (take_ok h2 3 [124] (by omega)) ?_
  rintro v w3 ⟨rfl, h3, c3⟩
  have s3 := c3.size
  have cB3 := c2.trans c3
  have b3 := c3.blk b2 hbl
  have hown : ∀ k, (Value.slice a ts.length c).ownBlock = some k → ¬ OnlyB q.b k := fun k hk e => by
    have := (own_ge ho hk).1
    have : k = q.b := e
    omega
  have ho3 := own_of_chg ho c3 hown
  have hvo3 : VO w3 (fun b => w0.heap.size ≤ b ∧ b < w3.heap.size ∧ (Value.slice a ts.length c).ownBlock ≠ some b) us ts := hvo.keep c3 (fun b hb e => by have : b = q.b := e; omega) fun b hb => ⟨hb.1, by omega, hb.2.2⟩
  refine ⟨_, rfl, ?_⟩
  cases hw : isW ws j 3 [124] with
  | true =>
    rw [hw, if_pos rfl] at h3
    rw [if_pos rfl]
    refine Calls.thenP (hp (j + 1) (by omega) w3 h3) ?_ fun c w' hb => BadP.from hb cB3 fun j' hj => hrest _ (Pa.rest_bad hw hj)
    rintro v w4 ⟨t', j', u', hP', rfl, hu', h4, c4⟩
    have hij' := hP'.le
    have s4 := c4.size
    refine agg4 ?_
    have ca := chg_alloc w4 (.cells #[.int .i8 u'.op, .int .i8 u'.f, .int .u64 u'.n, .slice u'.b u'.m u'.c] 26) NoS
    have za := size_alloc w4 (.cells #[.int .i8 u'.op, .int .i8 u'.f, .int .u64 u'.n, .slice u'.b u'.m u'.c] 26)
    have ba := blk_alloc w4 (.cells #[.int .i8 u'.op, .int .i8 u'.f, .int .u64 u'.n, .slice u'.b u'.m u'.c] 26)
    generalize w4.alloc (.cells #[.int .i8 u'.op, .int .i8 u'.f, .int .u64 u'.n, .slice u'.b u'.m u'.c] 26) = w5 at ca za ba ⊢
    have h5 := h4.keep ca
    have c35 : Chg (OnlyB q.b) w3 w5 := c4.trans (toB ca _)
    have cB5 := cB3.trans c35
    have b5 := c35.blk b3 hbl
    have ho5 := own_of_chg ho3 c35 hown
    have hjl' := h4.lt
    refine terms_append (base := w0.heap.size) (n := ts.length) (m := 1) (vs := us) (us := [u']) ho5 rfl (by
      have := reads_lit ba
      simpa [flat, V4.cells] using this) (fun e => by cases e) (by omega) (by omega) ?_
    intro a' c' w6 ho6 c6 hb6
    have s6 := c6.size
    have c6q : ∀ k, (Value.slice a ts.length c).ownBlock = some k → w.heap.size ≤ k ∧ k ≠ w.heap.size := fun k hk => by have := (own_ge ho hk).1; omega
    have cB6 : Chg (OnlyB q.b) w w6 := cB5.trans2 c6 fun k hk e => by have := (c6q k e).1; omega
    have b6 := c6.blk b5 fun e => (c6q _ e).2 rfl
    have h6 : Rdr w6 q ws j' := by
      cases hob : (Value.slice a ts.length c).ownBlock with
      | none => exact h5.keep (c6.mono fun k hk e => by rw [hob] at e; cases e)
      | some g => exact h5.keep2 (c6.mono fun k hk e => by rw [hob] at e; exact (Option.some.inj e).symm) h (c6q g hob).1
    refine ⟨_, _, _, rfl, (a', ts.length + 1, c'), ⟨rfl, trivial⟩, ⟨j', ts ++ [t'], us ++ [u'], by simp, by simp, fun r hr => hrest r (Pa.rest_go hw hP' hr), by omega, by simp; omega, h6, ho6, ?_, cB6, b6⟩, ?_⟩
    · have c36 : Chg (fun k => k = q.b ∨ (Value.slice a ts.length c).ownBlock = some k) w3 w6 := (c35.mono fun k _ e => .inl e).trans2 c6 fun k _ e => .inr e
      have s35 := c35.size
      refine VO.append (hvo3.keep c36 (fun b hb e => ?g1) fun b hb => ⟨hb.1, by have := hb.2.1; omega, fun e => ?g2⟩) (.cons (hu'.lt.keep ((ca.mono (T := fun k => (Value.slice a ts.length c).ownBlock = some k) fun _ _ x => x.elim).trans2 c6 fun _ _ x => x) (fun b hb e => ?g3) fun b hb => ⟨by have := hb.1; omega, by have := hb.2; omega, fun e => ?g4⟩) .nil)
      case g1 =>
        rcases e with e | e
        · omega
        · exact hb.2.2 e
      case g2 =>
        rcases hb6 b e with e | e
        · exact hb.2.2 e
        · have := hb.2.1; omega
      case g3 =>
        have := (own_ge ho3 e).2
        have := hb.1
        omega
      case g4 =>
        rcases hb6 b e with e | e
        · have := (own_ge ho3 e).2
          have := hb.1
          omega
        · have := hb.2; omega
    · rw [rpos_rdr h6, rpos_rdr h2]
      omega
  | false =>
    rw [hw, if_neg (by simp)] at h3
    rw [if_neg (by simp)]
    have hfin : Pa ws (.row .pred) i (.ok (mkRow .pred ts) j) := hrest _ (Pa.rest_end hw)
    by_cases h1l : ts.length = 1
    · rw [if_pos (by simp [h1l])]
      obtain ⟨t0, rfl⟩ := List.length_eq_one_iff.1 h1l
      obtain ⟨u0, rfl⟩ : ∃ u0, us = [u0] := List.length_eq_one_iff.1 (by rw [hvo3.len, h1l])
      have hu0 : u0.own w3 (fun b => w0.heap.size ≤ b ∧ b < w3.heap.size ∧ (Value.slice a [t0].length c).ownBlock ≠ some b) t0 := by cases hvo3 with | cons hh _ => exact hh
      have get : ∀ k u, (flat [u0])[k]? = some u → ∃ A, a = some A ∧ w3.cell? (addK A k) = some u := fun k u hu => own_cell ho3 hu
      obtain ⟨A, rfl, g0⟩ := get 0 _ rfl
      obtain ⟨_, e, g1⟩ := get 1 _ rfl
      cases e
      obtain ⟨_, e, g2⟩ := get 2 _ rfl
      cases e
      obtain ⟨_, e, g3⟩ := get 3 _ rfl
      cases e
      refine ⟨by omega, by simp, some_w ⟨_, by rw [addK_zero]; exact g0, _, by rw [addK_zero]; exact g1, _, by rw [addK_zero]; exact g2, _, _, _, by rw [addK_zero]; exact g3, ?_⟩⟩
      refine (putR (vs := [.int .i8 u0.op, .int .i8 u0.f, .int .u64 u0.n, .slice u0.b u0.m u0.c]) b3 cB3 (Nat.le_refl _) rfl (by simp [oneC]) fun w8 b8 cB8 c8 => ?_ : setsW _ _ _ _ _)
      refine ⟨_, get_blk b8 0 _ rfl, _, get_blk b8 1 _ rfl, _, get_blk b8 2 _ rfl, _, _, _, get_blk b8 3 _ rfl, t0, j, u0, hfin, rfl, hu0.keep c8 (fun b hb e => by have : b = w.heap.size := e; have := hb.1; omega) (fun b hb => by have := hb.1; omega), h3.keep2 c8 h (Nat.le_refl _), cB8⟩
    · rw [if_neg (by simp; omega)]
      refine (putR (vs := [.int .i8 5, .int .i8 0, .int .u64 0, .slice a ts.length c]) b3 cB3 (Nat.le_refl _) rfl (by simp [oneC]) fun w8 b8 cB8 c8 => ?_ : setsW _ _ _ _ _)
      rw [mkRow_many h1l] at hfin
      refine ⟨_, get_blk b8 0 _ rfl, _, get_blk b8 1 _ rfl, _, get_blk b8 2 _ rfl, _, _, _, get_blk b8 3 _ rfl, _, j, ⟨5, 0, 0, a, ts.length, c⟩, hfin, rfl, ?_, h3.keep2 c8 h (Nat.le_refl _), cB8⟩
      have ho8 := own_of_chg ho3 c8 fun k hk e => by
        have : k = w.heap.size := e
        have := (own_ge ho hk).1
        omega
      have hcap := own_cap ho8
      exact own_mk (by decide) rfl hcap.1 hcap.2 (hvo3.keep c8 (fun b hb e => by have : b = w.heap.size := e; have := hb.1; omega) (fun b hb => by have := hb.1; omega)) (flat_cell ho8) fun A hA => ⟨by subst hA; have := (own_ge ho8 (k := A.block) rfl).1; omega, own_whole ho8 A hA⟩

theorem row69_ok {q : Rp} {ws : List Wd} {i : Nat} (hp : ∀ i', i ≤ i' → PaAt q ws 92 (Rw.part .and) i') (w : World) (h : Rdr w q ws i) :
    Calls Tryz.prog 48 #[.pointer (some ⟨q.b, 0, none⟩), .int .i8 4, .string (bs [38]), .func (.func 92) #[.pointer (some ⟨q.b, 0, none⟩)] #[]] w (endW (RetP w q ws (Pa ws (.row .and) i)) (BadP w q ws (Pa ws (.row .and) i))) := by
  refine F48x92_calls _ _ _ ?_
  delta F48x92
  have c0 : Chg NoS w (w.alloc (.cells #[.int .i8 0, .int .i8 0, .int .u64 0, .slice none 0 0] 26)) := chg_alloc w _ _
  have b0 : (w.alloc (.cells #[.int .i8 0, .int .i8 0, .int .u64 0, .slice none 0 0] 26)).heap[w.heap.size]? = some (.cells [.int .i8 0, .int .i8 0, .int .u64 0, .slice none 0 0].toArray 26 (0, 0)) := blk_alloc w _
  have z0 : (w.alloc (.cells #[.int .i8 0, .int .i8 0, .int .u64 0, .slice none 0 0] 26)).heap.size = w.heap.size + 1 := size_alloc w _
  generalize (w.alloc (.cells #[.int .i8 0, .int .i8 0, .int .u64 0, .slice none 0 0] 26)) = w0 at c0 b0 z0 ⊢
  have h0 := h.keep c0
  have small := h.st.small
  have hqb := lt_of_blk h.blk
  have hbl : w.heap.size ≠ q.b := by omega
  refine Calls.thenP (hp i (Nat.le_refl _) w0 h0) ?_ fun c w' hb => BadP.from hb (toB c0 _) fun j hj => Pa.row_bad hj
  rintro v w1 ⟨t, j, u, hP, rfl, hu, h1, c1⟩
  have hij := hP.le
  have cB1 := (toB c0 (OnlyB q.b)).trans c1
  have b1 := c1.blk b0 hbl
  refine agg4 ?_
  have s1 := c1.size
  refine ⟨RowI w q ws .and i w0.heap.size, fun _ w2 => ws.length - rpos w2 q.b, ⟨(some ⟨w1.heap.size, 0, none⟩, 1, 1), ⟨rfl, trivial⟩, j, [t], [u], rfl, by simp, fun r hr => Pa.row hP hr, hij, by simp; omega, h1.keep (chg_alloc w1 _ _), ?_, ?_, cB1.trans (toB (chg_alloc w1 _ _) _), (chg_alloc w1 _ NoS).blk b1 fun x => x⟩, ?_⟩
  · exact ⟨by simp [flat, V4.cells], .inr ⟨w1.heap.size, 1, _, rfl, s1, blk_alloc w1 _, Nat.le_refl _, by simp [maxLen], by simp, by simp [flat, V4.cells]⟩⟩
  · refine .cons (hu.lt.keep (chg_alloc w1 _ NoS) (fun _ _ x => x) fun b hb => ⟨hb.1, ?_, fun e => ?_⟩) .nil
    · rw [size_alloc]; exact Nat.lt_succ_of_lt hb.2
    · have e' : w1.heap.size = b := Option.some.inj e
      have := hb.2
      omega
  rintro ⟨a, n, c⟩ w2 ⟨j, ts, us, hn, hpos, hrest, hij, hlen, h2, ho, hvo, c2, b2⟩ _
  dsimp only at hn ho hvo ⊢
  subst hn
  have hjl := h2.lt
  have s2 := c2.size
  have s2' := lt_of_blk b2
  refine Calls.then (take_ok h2 3 [38] (by omega)) ?_
  rintro v w3 ⟨rfl, h3, c3⟩
  have s3 := c3.size
  have cB3 := c2.trans c3
  have b3 := c3.blk b2 hbl
  have hown : ∀ k, (Value.slice a ts.length c).ownBlock = some k → ¬ OnlyB q.b k := fun k hk e => by
    have := (own_ge ho hk).1
    have : k = q.b := e
    omega
  have ho3 := own_of_chg ho c3 hown
  have hvo3 : VO w3 (fun b => w0.heap.size ≤ b ∧ b < w3.heap.size ∧ (Value.slice a ts.length c).ownBlock ≠ some b) us ts := hvo.keep c3 (fun b hb e => by have : b = q.b := e; omega) fun b hb => ⟨hb.1, by omega, hb.2.2⟩
  refine ⟨_, rfl, ?_⟩
  cases hw : isW ws j 3 [38] with
  | true =>
    rw [hw, if_pos rfl] at h3
    rw [if_pos rfl]
    refine Calls.thenP (hp (j + 1) (by omega) w3 h3) ?_ fun c w' hb => BadP.from hb cB3 fun j' hj => hrest _ (Pa.rest_bad hw hj)
    rintro v w4 ⟨t', j', u', hP', rfl, hu', h4, c4⟩
    have hij' := hP'.le
    have s4 := c4.size
    refine agg4 ?_
    have ca := chg_alloc w4 (.cells #[.int .i8 u'.op, .int .i8 u'.f, .int .u64 u'.n, .slice u'.b u'.m u'.c] 26) NoS
    have za := size_alloc w4 (.cells #[.int .i8 u'.op, .int .i8 u'.f, .int .u64 u'.n, .slice u'.b u'.m u'.c] 26)
    have ba := blk_alloc w4 (.cells #[.int .i8 u'.op, .int .i8 u'.f, .int .u64 u'.n, .slice u'.b u'.m u'.c] 26)
    generalize w4.alloc (.cells #[.int .i8 u'.op, .int .i8 u'.f, .int .u64 u'.n, .slice u'.b u'.m u'.c] 26) = w5 at ca za ba ⊢
    have h5 := h4.keep ca
    have c35 : Chg (OnlyB q.b) w3 w5 := c4.trans (toB ca _)
    have cB5 := cB3.trans c35
    have b5 := c35.blk b3 hbl
    have ho5 := own_of_chg ho3 c35 hown
    have hjl' := h4.lt
    refine terms_append (base := w0.heap.size) (n := ts.length) (m := 1) (vs := us) (us := [u']) ho5 rfl (by
      have := reads_lit ba
      simpa [flat, V4.cells] using this) (fun e => by cases e) (by omega) (by omega) ?_
    intro a' c' w6 ho6 c6 hb6
    have s6 := c6.size
    have c6q : ∀ k, (Value.slice a ts.length c).ownBlock = some k → w.heap.size ≤ k ∧ k ≠ w.heap.size := fun k hk => by have := (own_ge ho hk).1; omega
    have cB6 : Chg (OnlyB q.b) w w6 := cB5.trans2 c6 fun k hk e => by have := (c6q k e).1; omega
    have b6 := c6.blk b5 fun e => (c6q _ e).2 rfl
    have h6 : Rdr w6 q ws j' := by
      cases hob : (Value.slice a ts.length c).ownBlock with
      | none => exact h5.keep (c6.mono fun k hk e => by rw [hob] at e; cases e)
      | some g => exact h5.keep2 (c6.mono fun k hk e => by rw [hob] at e; exact (Option.some.inj e).symm) h (c6q g hob).1
    refine ⟨_, _, _, rfl, (a', ts.length + 1, c'), ⟨rfl, trivial⟩, ⟨j', ts ++ [t'], us ++ [u'], by simp, by simp, fun r hr => hrest r (Pa.rest_go hw hP' hr), by omega, by simp; omega, h6, ho6, ?_, cB6, b6⟩, ?_⟩
    · have c36 : Chg (fun k => k = q.b ∨ (Value.slice a ts.length c).ownBlock = some k) w3 w6 := (c35.mono fun k _ e => .inl e).trans2 c6 fun k _ e => .inr e
      have s35 := c35.size
      refine VO.append (hvo3.keep c36 (fun b hb e => ?g1) fun b hb => ⟨hb.1, by have := hb.2.1; omega, fun e => ?g2⟩) (.cons (hu'.lt.keep ((ca.mono (T := fun k => (Value.slice a ts.length c).ownBlock = some k) fun _ _ x => x.elim).trans2 c6 fun _ _ x => x) (fun b hb e => ?g3) fun b hb => ⟨by have := hb.1; omega, by have := hb.2; omega, fun e => ?g4⟩) .nil)
      case g1 =>
        rcases e with e | e
        · omega
        · exact hb.2.2 e
      case g2 =>
        rcases hb6 b e with e | e
        · exact hb.2.2 e
        · have := hb.2.1; omega
      case g3 =>
        have := (own_ge ho3 e).2
        have := hb.1
        omega
      case g4 =>
        rcases hb6 b e with e | e
        · have := (own_ge ho3 e).2
          have := hb.1
          omega
        · have := hb.2; omega
    · rw [rpos_rdr h6, rpos_rdr h2]
      omega
  | false =>
    rw [hw, if_neg (by simp)] at h3
    rw [if_neg (by simp)]
    have hfin : Pa ws (.row .and) i (.ok (mkRow .and ts) j) := hrest _ (Pa.rest_end hw)
    by_cases h1l : ts.length = 1
    · rw [if_pos (by simp [h1l])]
      obtain ⟨t0, rfl⟩ := List.length_eq_one_iff.1 h1l
      obtain ⟨u0, rfl⟩ : ∃ u0, us = [u0] := List.length_eq_one_iff.1 (by rw [hvo3.len, h1l])
      have hu0 : u0.own w3 (fun b => w0.heap.size ≤ b ∧ b < w3.heap.size ∧ (Value.slice a [t0].length c).ownBlock ≠ some b) t0 := by cases hvo3 with | cons hh _ => exact hh
      have get : ∀ k u, (flat [u0])[k]? = some u → ∃ A, a = some A ∧ w3.cell? (addK A k) = some u := fun k u hu => own_cell ho3 hu
      obtain ⟨A, rfl, g0⟩ := get 0 _ rfl
      obtain ⟨_, e, g1⟩ := get 1 _ rfl
      cases e
      obtain ⟨_, e, g2⟩ := get 2 _ rfl
      cases e
      obtain ⟨_, e, g3⟩ := get 3 _ rfl
      cases e
      refine ⟨by omega, by simp, some_w ⟨_, by rw [addK_zero]; exact g0, _, by rw [addK_zero]; exact g1, _, by rw [addK_zero]; exact g2, _, _, _, by rw [addK_zero]; exact g3, ?_⟩⟩
      refine (putR (vs := [.int .i8 u0.op, .int .i8 u0.f, .int .u64 u0.n, .slice u0.b u0.m u0.c]) b3 cB3 (Nat.le_refl _) rfl (by simp [oneC]) fun w8 b8 cB8 c8 => ?_ : setsW _ _ _ _ _)
      refine ⟨_, get_blk b8 0 _ rfl, _, get_blk b8 1 _ rfl, _, get_blk b8 2 _ rfl, _, _, _, get_blk b8 3 _ rfl, t0, j, u0, hfin, rfl, hu0.keep c8 (fun b hb e => by have : b = w.heap.size := e; have := hb.1; omega) (fun b hb => by have := hb.1; omega), h3.keep2 c8 h (Nat.le_refl _), cB8⟩
    · rw [if_neg (by simp; omega)]
      refine (putR (vs := [.int .i8 4, .int .i8 0, .int .u64 0, .slice a ts.length c]) b3 cB3 (Nat.le_refl _) rfl (by simp [oneC]) fun w8 b8 cB8 c8 => ?_ : setsW _ _ _ _ _)
      rw [mkRow_many h1l] at hfin
      refine ⟨_, get_blk b8 0 _ rfl, _, get_blk b8 1 _ rfl, _, get_blk b8 2 _ rfl, _, _, _, get_blk b8 3 _ rfl, _, j, ⟨4, 0, 0, a, ts.length, c⟩, hfin, rfl, ?_, h3.keep2 c8 h (Nat.le_refl _), cB8⟩
      have ho8 := own_of_chg ho3 c8 fun k hk e => by
        have : k = w.heap.size := e
        have := (own_ge ho hk).1
        omega
      have hcap := own_cap ho8
      exact own_mk (by decide) rfl hcap.1 hcap.2 (hvo3.keep c8 (fun b hb e => by have : b = w.heap.size := e; have := hb.1; omega) (fun b hb => by have := hb.1; omega)) (flat_cell ho8) fun A hA => ⟨by subst hA; have := (own_ge ho8 (k := A.block) rfl).1; omega, own_whole ho8 A hA⟩
end Go.Proofs.YtpolbdakhfcilaaGreatDoor.B
