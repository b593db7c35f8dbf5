/-
  LineEpochs: the walk.
-/
import Derived.Test.YtooebmpjmcmkoaaLinR
import Derived.Test.YtooebmpjmcmkoaaEngN
set_option maxRecDepth 100000
set_option linter.unusedVariables false
set_option linter.unusedSimpArgs false
namespace Go.Proofs.Ytooebmpjmcmkoaa.B
open Go Go.Proofs Go.Proofs.YtooebmpjmcmkoaaEng

def eA (low : Nat) (l : List (List UInt8)) : Lm := { Lm.new low with sent := (Lm.new low).sent ++ l }
theorem eA_wf {low : Nat} {l : List (List UInt8)} (h : low < 4294967296) (hl : l.length ≤ 60) (h4 : ∀ x ∈ l, x.length ≤ 4096) : (eA low l).wf :=
  ⟨h, by show 0 < _; omega, by show 0 < _; omega, by show l.length ≤ _; omega, fun x hx => by have := h4 x hx; omega⟩
theorem eA_out {low : Nat} {l : List (List UInt8)} (hl : l.length ≤ 30) (h : 14 + (body l).length ≤ 16384) : (eA low l).out = l.length := fit_all l 32 0 (by omega) (Nat.zero_le _) h
def eLate (low : Nat) : Lm := ⟨low, [[108, 97, 116, 101]], 0, 0, []⟩
def eB (high : Nat) (l : List (List UInt8)) : Lm := ⟨high, [], 0, l.length, l⟩
def eC (high : Nat) (l : List (List UInt8)) : Lm := ⟨high, [], 0, l.length, []⟩
theorem eTake1 {low high : Nat} {l : List (List UInt8)} (hlt : low < high) (hh : high < 4294967296) (hl : l.length ≤ 30) (h4 : ∀ x ∈ l, x.length ≤ 4096) (hb : 14 + (body l).length ≤ 16384) :
    (eLate low).take (S.sealed (eA high l).payload) = (0, eB high l) := by
  rw [take_payload (eA_wf hh (by omega) h4), eA_out hl hb]
  have e : (eA high l).sent.take l.length = l := List.take_length
  rw [e]
  unfold Lm.hear
  rw [if_neg (by show ¬ high < low; omega)]
  have h1 : (eLate low).heard ⟨(eA high l).ep, (eA high l).come, (eA high l).got, l⟩ = Lm.new high := by
    unfold Lm.heard
    rw [if_pos (by show low < high; exact hlt)]
    rfl
  rw [h1]
  have h2 : (Lm.new high).acks (eA high l).come = Lm.new high := by
    unfold Lm.acks
    rw [if_neg (by show ¬ (0 < 0 ∧ _); omega)]
  dsimp only
  have hg : (eA high l).got = 0 := rfl
  rw [h2, hg, feed_on l _ 0 (Lm.new high) rfl (by show 0 + l.length < _; omega)]
  simp [Lm.new, eB]
theorem eTake2 {low high : Nat} {l q : List (List UInt8)} (hlt : low < high) (hh : high < 4294967296) (hl : l.length ≤ 60) (h4 : ∀ x ∈ l, x.length ≤ 4096) :
    (eC high q).take (S.sealed (eA low l).payload) = (0, eC high q) := by
  rw [take_payload (eA_wf (by omega) hl h4)]
  unfold Lm.hear
  rw [if_pos (by show low < high; exact hlt)]

/-- datagrams that are told stand -/
structure Lists (w : World) (X : Nat → Prop) (b1 b2 : Nat) (r1 r2 : Value) (d1 d2 : List UInt8) : Prop where
  c1 : w.heap[b1]? = some (.cells #[r1] 31 (0, 0))
  c2 : w.heap[b2]? = some (.cells #[r2] 31 (0, 0))
  o1 : RowIn w X r1 d1
  o2 : RowIn w X r2 d2
  x1 : ¬ X b1
  x2 : ¬ X b2
theorem Lists.did {w0 w w' : World} {X X' : Nat → Prop} {b1 b2 : Nat} {r1 r2 : Value} {d1 d2 : List UInt8} (h : Lists w X b1 b2 r1 r2 d1 d2) (hk : Keeps w X w' X') (hc : Chg X w w') (hg : ∀ k, X' k → X k ∨ w.heap.size ≤ k) : Lists w' X' b1 b2 r1 r2 d1 d2 :=
  ⟨hc.blk h.c1 h.x1, hc.blk h.c2 h.x2, hk _ _ h.o1, hk _ _ h.o2, fun hx => (hg _ hx).elim h.x1 fun h2 => by have := lt_of_blk h.c1; omega, fun hx => (hg _ hx).elim h.x2 fun h2 => by have := lt_of_blk h.c2; omega⟩

theorem LineEpochs_walk (a0 : Option Addr) (len0 cap0 : Nat) (a1 : Option Addr) (len1 cap1 : Nat) (a2 : Int) (a3 : Int) (w : World) (i0 : Is 1048576 Try.prog w 12 30 [.slice a0 len0 cap0]) (i1 : Is 1048576 Try.prog w 12 30 [.slice a1 len1 cap1]) (i2 : Is 1048576 Try.prog w 12 22 [.int .u32 a2]) (i3 : Is 1048576 Try.prog w 12 22 [.int .u32 a3]) :
    Calls Try.prog 8 #[.slice a0 len0 cap0, .slice a1 len1 cap1, .int .u32 a2, .int .u32 a3] w (endW (fun v w' => v = .bool true ∧ Chg NoS w w') (fun _ _ => False)) := by
  obtain ⟨z2, e2, hw2⟩ := i2.int Try.underlying22
  obtain ⟨z3, e3, hw3⟩ := i3.int Try.underlying22
  have e2' : a2 = z2 := by simpa using e2
  have e3' : a3 = z3 := by simpa using e3
  subst e2' e3'
  have hb2 := wf_u32 hw2
  have hb3 := wf_u32 hw3
  obtain ⟨low, rfl⟩ : ∃ n : Nat, a2 = (n : Int) := ⟨a2.toNat, by omega⟩
  obtain ⟨high, rfl⟩ : ∃ n : Nat, a3 = (n : Int) := ⟨a3.toNat, by omega⟩
  obtain ⟨vp, lp, hrp, hbp, hlp, hBp, _⟩ := rows_of_is (m := 9) i0
  obtain ⟨vq, lq, hrq, hbq, hlq, hBq, _⟩ := rows_of_is (m := 9) i1
  subst hlp hlq
  refine F8_calls _ _ _ _ _ _ _ _ ?_
  delta F8
  have wk : ∀ {w' : World}, Chg NoS w w' → Calls Try.prog 10 #[] w' (endW (fun v w' => ∃ b, v = .bool b ∧ ((.bool b : Value) = .bool true ∧ Chg NoS w w')) fun _ _ => False) := fun hc => Calls.then (wakes_ok _) fun v w2 hv => ⟨true, hv.1, rfl, hc.trans hv.2⟩
  refine ⟨fun _ w' => w' = w ∧ low < high ∧ (lp.length ≤ 30 ∧ 14 + (body lp).length ≤ 16384 ∧ ∀ l ∈ lp, l.length ≤ 4096) ∧ (lq.length ≤ 30 ∧ 14 + (body lq).length ≤ 16384 ∧ ∀ l ∈ lq, l.length ≤ 4096), ?_, ?_⟩
  · rintro s w' ⟨rfl, hlt, ⟨hp30, hp14, hp4⟩, hq30, hq14, hq4⟩ _
    have h0 : Ent w' w' (fun _ => False) (fun _ => none) := ⟨_, Sts.start w'⟩
    refine Calls.then (New_ok (ep := low)) ?_
    rintro v w1 ⟨rfl, rfl⟩
    refine ⟨_, rfl, ?_⟩
    obtain ⟨X1, h1, _⟩ := h0.born (i := 0) (t := 54) (ep := low) rfl (by decide)
    generalize w'.alloc (.cells (ecells (Lm.new low) (.slice none 0 0) (.slice none 0 0)) 54) = w1 at h1 ⊢
    generalize w'.heap.size = p0 at h1 ⊢
    refine Calls.then (New_ok (ep := high)) ?_
    rintro v w2 ⟨rfl, rfl⟩
    refine ⟨_, rfl, ?_⟩
    obtain ⟨X2, h2, _⟩ := h1.born (i := 1) (t := 54) (ep := high) rfl (by decide)
    generalize w1.alloc (.cells (ecells (Lm.new high) (.slice none 0 0) (.slice none 0 0)) 54) = w2 at h2 ⊢
    generalize w1.heap.size = p1 at h2 ⊢
    refine Calls.then (New_ok (ep := low)) ?_
    rintro v w3 ⟨rfl, rfl⟩
    refine ⟨_, rfl, ?_⟩
    obtain ⟨X3, h3, _⟩ := h2.born (i := 2) (t := 54) (ep := low) rfl (by decide)
    generalize w2.alloc (.cells (ecells (Lm.new low) (.slice none 0 0) (.slice none 0 0)) 54) = w3 at h3 ⊢
    generalize w2.heap.size = p2 at h3 ⊢
    refine ⟨fun _ w4 => ∃ X ms, Ent w' w4 X ms ∧ ms 0 = some (54, p0, eA low lp) ∧ ms 1 = some (54, p1, eA high lq) ∧ ms 2 = some (54, p2, eLate low), ?_, ?_⟩
    · rintro s w4 ⟨X, ms, h4, m0, m1, m2⟩ _
      refine Calls.then (h4.tick m0 (by show lp.length ≤ _; omega) fun l hl => by have := hp4 l hl; omega) ?_
      rintro v w5 ⟨hc5, bL, rL, rfl, hbL, hcL, hrL⟩
      obtain ⟨h5, hk5⟩ := h4.quiet hc5
      refine ⟨_, _, _, rfl, ?_⟩
      refine Calls.then (h5.tick m1 (by show lq.length ≤ _; omega) fun l hl => by have := hq4 l hl; omega) ?_
      rintro v w6 ⟨hc6, bF, rF, rfl, hbF, hcF, hrF⟩
      obtain ⟨h6, hk6⟩ := h5.quiet hc6
      refine ⟨_, _, _, rfl, ?_⟩
      have hsz := hc5.size
      have hL6 : Lists w6 X bF bL rF rL (S.sealed (eA high lq).payload) (S.sealed (eA low lp).payload) :=
        ⟨hcF, hc6.blk hcL (fun h => h), hrF, hk6 _ _ hrL, fun hx => by have := (h5.lt _ hx).2; omega, fun hx => by have := (h4.lt _ hx).2; omega⟩
      have hsF : (S.sealed (eA high lq).payload).length ≤ 20000 := by rw [S.sealed_length]; have := (payload_len (eA high lq)).2; omega
      have hsL : (S.sealed (eA low lp).payload).length ≤ 20000 := by rw [S.sealed_length]; have := (payload_len (eA low lp)).2; omega
      refine ⟨fun s w7 => ∃ (k : Nat) (X : Nat → Prop) (ms : Ents), s = (k : Int) ∧ k ≤ 1 ∧ Ent w' w7 X ms ∧ ms 2 = some (54, p2, if k = 0 then eLate low else eB high lq) ∧ Lists w7 X bF bL rF rL (S.sealed (eA high lq).payload) (S.sealed (eA low lp).payload),
        fun s _ => (1 - s).toNat, ⟨0, ⟨rfl, trivial⟩, 0, X, ms, rfl, by omega, h6, by simpa using m2, hL6⟩, ?_⟩
      rintro s w7 ⟨k, X7, ms7, rfl, hk7, h7, hm7, hL7⟩ _
      by_cases hk0 : k = 0
      · subst hk0
        rw [if_pos (by simp)]
        obtain ⟨ra, rc, rfl, hrl, _, hrr, _⟩ := id hL7.o1
        refine ⟨by omega, by omega, wSome_of rfl ⟨_, _, _, by simp only [Int.toNat_natCast, Nat.zero_mul, addK_lit]; rw [cell_blk hL7.c1]; rfl, ?_⟩⟩
        rw [if_pos rfl] at hm7
        refine Calls.then (h7.take hm7 ⟨by show low < _; omega, by show 0 < _; omega, by show 0 < _; omega, by show 1 ≤ _; omega, by show 0 ≤ _; omega⟩ rfl hrl hrr (by omega)) ?_
        rintro v w8 ⟨rfl, X8, h8, hk8, hc8, hg8⟩
        rw [eTake1 hlt (by omega) hq30 hq4 hq14] at h8 ⊢
        refine ⟨_, rfl, ?_⟩
        rw [if_neg (by simp)]
        exact ⟨1, ⟨by rw [i64w _ (by omega) (by omega)]; rfl, trivial⟩, ⟨1, X8, _, rfl, by omega, h8, upd_same, hL7.did (w0 := w') hk8 hc8 hg8⟩, by dsimp only; omega⟩
      · have : k = 1 := by omega
        subst this
        rw [if_neg (by simp)]
        rw [if_neg (by omega)] at hm7
        refine Calls.then (h7.came hm7) ?_
        rintro v w8 ⟨X8, h8, hk8, hc8, hg8, a8, c8, us8, rfl, ho8, hr8, hx8⟩
        have hL8 := hL7.did (w0 := w') hk8 hc8 hg8
        refine ⟨_, _, _, rfl, ?_⟩
        refine ⟨fun s w9 => ∃ (k : Nat) (X : Nat → Prop) (ms : Ents), s = (k : Int) ∧ k ≤ 1 ∧ Ent w' w9 X ms ∧ ms 2 = some (54, p2, eC high lq) ∧ Lists w9 X bF bL rF rL (S.sealed (eA high lq).payload) (S.sealed (eA low lp).payload) ∧
            OwnT w9 31 (.slice a8 (eB high lq).fresh.length c8) (eB high lq).fresh.length us8 ∧ BRows w9 X us8 lq ∧ ∀ k, tBlk (.slice a8 (eB high lq).fresh.length c8) k → ¬ X k,
          fun s _ => (1 - s).toNat, ⟨0, ⟨rfl, trivial⟩, 0, X8, _, rfl, by omega, h8, upd_same, hL8, ho8, hr8, hx8⟩, ?_⟩
        rintro s w9 ⟨k, X9, ms9, rfl, hk9, h9, hm9, hL9, ho9, hr9, hx9⟩ _
        by_cases hk0 : k = 0
        · subst hk0
          rw [if_pos (by simp)]
          obtain ⟨ra, rc, rfl, hrl, _, hrr, _⟩ := id hL9.o2
          refine ⟨by omega, by omega, wSome_of rfl ⟨_, _, _, by simp only [Int.toNat_natCast, Nat.zero_mul, addK_lit]; rw [cell_blk hL9.c2]; rfl, ?_⟩⟩
          refine Calls.then (h9.take hm9 ⟨by show high < _; omega, by show 0 < _; omega, by show lq.length < _; omega, by show 0 ≤ _; omega, by show 0 ≤ _; omega⟩ rfl hrl hrr (by omega)) ?_
          rintro v w10 ⟨rfl, X10, h10, hk10, hc10, hg10⟩
          rw [eTake2 hlt (by omega) (by omega) hp4] at h10 ⊢
          refine ⟨_, rfl, ?_⟩
          rw [if_neg (by simp)]
          refine ⟨1, ⟨by rw [i64w _ (by omega) (by omega)]; rfl, trivial⟩, ⟨1, X10, _, rfl, by omega, h10, upd_same, hL9.did (w0 := w') hk10 hc10 hg10, ho9.chg hc10 hx9, ?_, fun k hk hx => (hg10 k hx).elim (hx9 k hk) fun h => by have := ho9.lt hk; omega⟩, by dsimp only; omega⟩
          have keep : ∀ {vs : List Value} {ls : List (List UInt8)}, BRows w9 X9 vs ls → BRows w10 X10 vs ls := by
            intro vs
            induction vs with
            | nil => intro ls h; cases ls with
              | nil => trivial
              | cons _ _ => exact h.elim
            | cons v vs ih => intro ls h; cases ls with
              | nil => exact h.elim
              | cons l ls => exact ⟨hk10 _ _ h.1, ih h.2⟩
          exact keep hr9
        · have : k = 1 := by omega
          subst this
          rw [if_neg (by simp)]
          have hc9 := h9.ch
          refine Calls.then (All_ok (c := c8) (c2 := cap1) ho9.reads hr9 (fun j u hu => by obtain ⟨A, hA, hcl⟩ := hrq j u hu; exact ⟨A, hA, hc9.sameOld.cell hcl⟩) (hbq.chg hc9 fun k _ h => h.elim) (by show lq.length ≤ _; omega) (by omega) (fun l hl => by have := hq4 l hl; omega) (fun l hl => by have := hq4 l hl; omega)) ?_
          rintro v w10 ⟨rfl, hc10⟩
          refine ⟨_, rfl, ?_⟩
          rw [if_pos (by simp [eB])]
          obtain ⟨h10, _⟩ := h9.quiet hc10
          refine Calls.then (h10.came hm9) ?_
          rintro v w11 ⟨X11, h11, hk11, hc11, hg11, a11, c11, us11, rfl, _⟩
          refine ⟨_, _, _, rfl, ?_⟩
          rw [if_pos (by simp [eC])]
          refine Calls.then (h11.left upd_same) ?_
          rintro v w12 ⟨rfl, rfl⟩
          refine ⟨_, rfl, ?_⟩
          rw [if_pos (by simp [eC])]
          exact wk h11.ch
    · refine Calls.then (sent_ok h3 (i := 0) (t := 54) (p := p0) (m := Lm.new low) rfl hrp hbp (fun l hl => by have := hp4 l hl; omega) (by show 0 + lp.length ≤ _; omega)) ?_
      rintro v w4 ⟨rfl, X4, ms4, h4, hi4, ho4, hk4, hg4⟩
      refine ⟨_, rfl, ?_⟩
      rw [if_pos (by simp)]
      refine Calls.then (sent_ok h4 (i := 1) (t := 54) (p := p1) (m := Lm.new high) (by rw [ho4 1 (by decide)]; rfl) hrq hbq (fun l hl => by have := hq4 l hl; omega) (by show 0 + lq.length ≤ _; omega)) ?_
      rintro v w5 ⟨rfl, X5, ms5, h5, hi5, ho5, hk5, hg5⟩
      refine ⟨_, rfl, ?_⟩
      rw [if_pos (by simp)]
      refine conv_const S.bT.und S.bT.u8 ?_
      intro w6 hb6 hr6 hc6 hz6
      obtain ⟨h6, hk6⟩ := h5.quiet hc6
      refine ⟨_, _, _, rfl, ?_⟩
      refine Calls.then (h6.send (i := 2) (t := 54) (p := p2) (m := Lm.new low) (bs := [108, 97, 116, 101]) (by rw [ho5 2 (by decide), ho4 2 (by decide)]; rfl) (by show 0 ≤ _; omega) rfl hr6 (fun e => by cases e)) ?_
      rintro v w7 ⟨rfl, X7, h7, hk7, hc7, hg7⟩
      have es : (Lm.new low).send [108, 97, 116, 101] = (0, eLate low) := rfl
      rw [es] at h7 ⊢
      refine ⟨_, rfl, ?_⟩
      rw [if_neg (by simp)]
      exact ⟨(), trivial, X7, _, h7, by rw [upd_other (by decide), ho5 0 (by decide)]; exact hi4, by rw [upd_other (by decide)]; exact hi5, upd_same⟩
  · refine Calls.then (small_ok hrp hbp (by simp only [maxLen]; omega)) ?_
    rintro v w1 ⟨⟨b1, rfl, hs1⟩, rfl⟩
    refine ⟨_, rfl, ?_⟩
    cases b1 with
    | false => rw [if_neg (by simp)]; exact wk (Chg.refl _ _)
    | true =>
      rw [if_pos (by simp)]
      obtain ⟨hp60, hp4⟩ := hs1 rfl
      refine Calls.then (small_ok hrq hbq (by simp only [maxLen]; omega)) ?_
      rintro v w2 ⟨⟨b2, rfl, hs2⟩, rfl⟩
      refine ⟨_, rfl, ?_⟩
      cases b2 with
      | false => rw [if_neg (by simp)]; exact wk (Chg.refl _ _)
      | true =>
        rw [if_pos (by simp)]
        obtain ⟨hq60, hq4⟩ := hs2 rfl
        by_cases hlt : low < high
        · rw [if_pos (by simp; omega)]
          refine Calls.then (fits_ok hrp hbp hp60 hp4) ?_
          rintro v w3 ⟨⟨b3, rfl, hs3⟩, rfl⟩
          refine ⟨_, rfl, ?_⟩
          cases b3 with
          | false => rw [if_neg (by simp)]; exact wk (Chg.refl _ _)
          | true =>
            rw [if_pos (by simp)]
            obtain ⟨hp30, hp14⟩ := hs3 rfl
            refine Calls.then (fits_ok hrq hbq hq60 hq4) ?_
            rintro v w4 ⟨⟨b4, rfl, hs4⟩, rfl⟩
            refine ⟨_, rfl, ?_⟩
            cases b4 with
            | false => rw [if_pos (by simp)]; exact wk (Chg.refl _ _)
            | true =>
              rw [if_neg (by simp)]
              obtain ⟨hq30, hq14⟩ := hs4 rfl
              exact ⟨(), trivial, rfl, hlt, ⟨hp30, hp14, hp4⟩, hq30, hq14, hq4⟩
        · rw [if_neg (by simp; omega)]
          exact wk (Chg.refl _ _)
end Go.Proofs.Ytooebmpjmcmkoaa.B
