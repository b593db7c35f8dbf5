/-
  line: Tick, the program's.
-/
import Derived.Test.YtooebmpjmcmkoaaLinC
set_option maxRecDepth 100000
set_option linter.unusedVariables false
set_option linter.unusedSimpArgs false
namespace Go.Proofs.Ytooebmpjmcmkoaa.B
open Go Go.Proofs Go.Proofs.YtooebmpjmcmkoaaEng

theorem EndV.row {t : TypeId} {w : World} {X F : Nat → Prop} {p : Nat} {m : Lm} {a : Option Addr} {c : Nat} {fv : Value} {vs us : List Value} (h : EndV t w X F p m (.slice a m.sent.length c) fv vs us) {i : Nat} {l : List UInt8} (hi : m.sent[i]? = some l) :
    ∃ A av cv, a = some A ∧ w.cell? (addK A i) = some (.slice av l.length cv) ∧ l.length ≤ cv ∧ (av = none → l.length = 0) ∧ Reads w av (vals l) := by
  obtain ⟨v, hv, av, cv, rfl, h1, h2, h3, h4⟩ := h.si.get hi
  obtain ⟨A, hA, hc⟩ := h.so.reads i _ hv
  exact ⟨A, av, cv, hA, hc, h1, h2, h3⟩
theorem RowIn.rd {X : Nat → Prop} {w : World} {a : Option Addr} {n c : Nat} {bs : List UInt8} (h : RowIn w X (.slice a n c) bs) : Reads w a (vals bs) ∧ bs.length = n ∧ n ≤ c ∧ (a = none → n = 0) := by
  obtain ⟨a', c', e, h1, h2, h3, _⟩ := h
  injection e with e1 e2 e3
  subst e1 e2 e3
  exact ⟨h3, rfl, h1, h2⟩
theorem payload_head (m : Lm) : m.payload = (be4 m.ep ++ be4 m.come ++ be4 m.got) ++ be2 m.out ++ body (m.sent.take m.out) := rfl

theorem kept_drew {w w' : World} {S : Nat → Prop} (h : Chg NoS w w') : Kept S w.drew w' := ⟨h.size, fun b hb _ => h.block b hb fun x => x⟩
theorem Tick_ok {t : TypeId} {w : World} {X F : Nat → Prop} {p : Nat} {m : Lm} (h : EndAt t w X F p m) (hl : m.sent.length < 1099511627776) (hrl : ∀ l ∈ m.sent, l.length ≤ 8192) :
    Calls Try.prog 20 #[.pointer (some ⟨p, 0, none⟩)] w (endW (TickEnd w m) (fun _ _ => False)) := by
  refine F20_calls _ ?_
  delta F20
  obtain ⟨sv, fv, vs, us, h⟩ := h
  obtain ⟨av, cv, rfl⟩ := h.len
  have h0 := h.chg (chg_drew w NoS) fun k _ h => h.elim
  obtain ⟨e0, e1, e2, e3, e4⟩ := ecell h0
  rw [if_neg (by simp)]
  refine ⟨fun _ => False, wSome_of rfl (wSome_of rfl (wSome_of rfl ?_))⟩
  simp only [addK_lit]
  refine ⟨fun h => h, _, e0, fun h => h, _, e3, fun h => h, _, e2, ?_⟩
  refine bytes_make (base := w.heap.size) (c := 64) S.bT rfl (by omega) (Nat.le_refl _) ?_
  intro w1 ho1 hc1 hz1
  have hc1 : Chg NoS w w1 := (chg_drew w NoS).trans hc1
  refine ⟨_, _, _, rfl, kept_drew hc1, ?_⟩
  refine Calls.then (four_ok ho1 (by omega) hc1.size) ?_
  rintro v w2 ⟨a2, c2, rfl, ho2, hc2⟩
  have hc2 : Chg NoS w w2 := hc1.trans2 hc2 fun k hk e => by omega
  refine ⟨_, _, _, rfl, kept_drew hc2, ?_⟩
  refine Calls.then (four_ok ho2 (by omega) hc2.size) ?_
  rintro v w3 ⟨a3, c3, rfl, ho3, hc3⟩
  have hc3 : Chg NoS w w3 := hc2.trans2 hc3 fun k hk e => by omega
  refine ⟨_, _, _, rfl, kept_drew hc3, ?_⟩
  refine Calls.then (four_ok ho3 (by omega) hc3.size) ?_
  rintro v w4 ⟨a4, c4, rfl, ho4, hc4⟩
  have hc4 : Chg NoS w w4 := hc3.trans2 hc4 fun k hk e => by omega
  simp only [List.nil_append, Nat.zero_add] at ho4
  obtain ⟨g1, g2, g3, g4, g5⟩ := own_reads_v ho4
  refine ⟨_, _, _, rfl, by omega, by omega, by omega, by omega, wSome_of rfl (wSome_of rfl ?_)⟩
  have h4 := h.chg (hc4.trans (chg_drew w4 NoS)) fun k _ h => h.elim
  refine ⟨_, _, _, by rw [addK_lit]; exact (ecell h4).2.1, _, _, _, by rw [addK_lit]; exact (ecell h4).2.1, ?_⟩
  refine min_run (by omega) ?_
  refine ⟨_, rfl, SameOld.refl _, by omega, ?_, ?_⟩
  · obtain ⟨_, _, e, _, hcv⟩ := h.so.form
    injection e with _ _ e
    omega
  obtain ⟨A4, hA4⟩ : ∃ A, a4 = some A := by
    cases a4 with
    | none => exact absurd (g3 rfl) (by omega)
    | some A => exact ⟨A, rfl⟩
  subst hA4
  simp only [S.ite_dec, cut0, Nat.sub_zero, Int.toNat_natCast]
  refine ⟨fun s w' => ∃ (i n c : Nat) (a : Option Addr), s = ((i : Int), a, n, c, (i : Int)) ∧ i ≤ min m.sent.length 32 ∧ fitFrom m.sent (32 - i) i = m.out ∧ w'.ownsRow w4.heap.size 5 1 (.slice a n c) n (vals (body (m.sent.take i))) ∧ w4.heap.size ≤ w'.heap.size ∧ 14 + (body (m.sent.take i)).length ≤ 16384 ∧ Chg NoS w w' ∧ Reads w' (some A4) (vals (be4 m.ep ++ be4 m.come ++ be4 m.got)),
    fun s _ => (32 - s.1).toNat, ⟨(0, none, 0, 0, 0), ⟨rfl, rfl, rfl, trivial⟩, 0, 0, 0, none, rfl, by omega, rfl, own_nil' _ _ _ _, Nat.le_refl _, by simp [body], hc4.trans (chg_drew w4 NoS), g1.chg (chg_drew w4 NoS) fun _ _ h => h⟩, ?_⟩
  rintro s w5 ⟨i, n, c, a, rfl, hi, hfit, ho5, hs5, hsz, hc5, hr5⟩ _
  dsimp only
  obtain ⟨t1, t2, t3, t4, t5⟩ := own_reads_v ho5
  by_cases hlt : i < min m.sent.length 32
  · rw [if_pos (by simp; omega)]
    have h5 := h.chg hc5 fun k _ h => h.elim
    have hil : i < m.sent.length := by omega
    have hlen8 := hrl _ (List.getElem_mem hil)
    obtain ⟨v, hv, hrow⟩ := h.si.get (List.getElem?_eq_getElem hil)
    obtain ⟨A, rfl, hcell⟩ := h5.so.reads i _ hv
    obtain ⟨bv, bc, rfl, _⟩ := id hrow
    obtain ⟨hbr, -, hbc, hb0⟩ := RowIn.rd hrow
    refine ⟨by omega, by omega, wSome_of rfl ⟨_, _, _, by rw [Nat.mul_one]; exact hcell, ?_⟩⟩
    have hw : IntKind.wrap .i64 (IntKind.wrap .i64 (IntKind.wrap .i64 (IntKind.wrap .i64 (((12 : Nat) : Int) + 2) + (n : Int)) + 2) + (m.sent[i].length : Int)) = ((16 + n + m.sent[i].length : Nat) : Int) := by
      rw [i64w (((12 : Nat) : Int) + 2) (by omega) (by omega), i64w (((12 : Nat) : Int) + 2 + n) (by omega) (by omega), i64w (((12 : Nat) : Int) + 2 + n + 2) (by omega) (by omega), i64w (((12 : Nat) : Int) + 2 + n + 2 + m.sent[i].length) (by omega) (by omega)]
      omega
    rw [hw]
    obtain ⟨f, hf⟩ : ∃ f, 32 - i = f + 1 := ⟨31 - i, by omega⟩
    rw [hf] at hfit
    unfold fitFrom at hfit
    rw [dif_pos hil] at hfit
    by_cases hbig : 16 + n + m.sent[i].length > 16384
    · rw [if_pos (by simp; omega)]
      rw [if_neg (by omega)] at hfit
      refine tick_end hc5 hr5 (by simp [be4]) (own_base' ho5 fun k hk => by have := (own_lt' ho5 hk).2; have := hc4.size; omega) hsz ?_ fun v w' h => h
      rw [payload_head, hfit]
    · rw [if_neg (by simp; omega)]
      rw [if_pos (by omega)] at hfit
      refine Calls.then (two_ok ho5 (by omega) hs5) ?_
      rintro v w6 ⟨a6, c6, rfl, ho6, hc6⟩
      refine ⟨_, _, _, rfl, ?_⟩
      have hc56 : Chg NoS w w6 := hc5.trans2 hc6 fun k hk e => by have := hc4.size; omega
      refine bytes_append (n := n + 2) (base := w4.heap.size) (c := bc) S.bT Try.underlying31 ho6 rfl ?_ hb0 (by omega) (Nat.le_trans hs5 hc6.size) ?_
      · exact (RowIn.rd (RowIn.chg hrow hc56 fun k _ h => h.elim)).1
      intro a7 c7 w7 ho7 hc7 hb7
      have hc7' : Chg NoS w w7 := hc56.trans2 hc7 fun k hk e => by have := (own_lt' ho6 e).2; have := hc4.size; omega
      have htk : body (m.sent.take (i + 1)) = (body (m.sent.take i) ++ be2 m.sent[i].length) ++ m.sent[i] := by rw [← List.take_append_getElem hil, body_snoc]
      refine ⟨_, _, _, rfl, (((i + 1 : Nat) : Int), a7, n + 2 + m.sent[i].length, c7, ((i + 1 : Nat) : Int)), ⟨?_, rfl, ?_, trivial⟩, ⟨i + 1, _, _, _, rfl, by omega, ?_, ?_, ?_, ?_, hc7', ?_⟩, by dsimp only; omega⟩
      · rw [i64w _ (by omega) (by omega)]; rfl
      · rw [i64w _ (by omega) (by omega)]; rfl
      · rw [show 32 - (i + 1) = f from by omega]; exact hfit
      · rw [htk]; exact ho7
      · have := hc6.size; have := hc7.size; omega
      · rw [htk]; simp [be2]; omega
      · exact (hr5.chg hc6 fun A e e2 => by cases e; have := Reads.lt g1 (by simp [vals, be4]); omega).chg hc7 fun A e e2 => by cases e; have := (own_lt' ho6 e2).2; have := Reads.lt g1 (by simp [vals, be4]); omega
  · rw [if_neg (by simp; omega)]
    have hout : i = m.out := by
      rw [← hfit]
      by_cases h32 : i = 32
      · subst h32; rfl
      · obtain ⟨f, hf⟩ : ∃ f, 32 - i = f + 1 := ⟨31 - i, by omega⟩
        rw [hf]
        unfold fitFrom
        rw [dif_neg (by omega)]
    refine tick_end hc5 hr5 (by simp [be4]) (own_base' ho5 fun k hk => by have := (own_lt' ho5 hk).2; have := hc4.size; omega) hsz ?_ fun v w' h => h
    rw [payload_head, ← hout]
end Go.Proofs.Ytooebmpjmcmkoaa.B
