/-
  line: Take, the document's.
-/
import Derived.Test.YtooebmpjmcmkoaaLinJ
set_option maxRecDepth 100000
set_option linter.unusedVariables false
set_option linter.unusedSimpArgs false
namespace Go.Proofs.Ytooebmpjmcmkoaa.B
open Go Go.Proofs Go.Proofs.YtooebmpjmcmkoaaEng

theorem parse_fields {bs : List UInt8} {d : Dgm} (h : parse bs = some d) : d.ep = un (bs.take 4) ∧ d.come = un ((bs.drop 4).take 4) ∧ d.first = un ((bs.drop 8).take 4) := by
  unfold parse at h
  split at h
  · cases h
  · obtain ⟨l, hl, rfl⟩ := Option.map_eq_some_iff.1 h
    exact ⟨rfl, rfl, rfl⟩
theorem rTake_ok {t : TypeId} {w : World} {X F : Nat → Prop} {p : Nat} {m : Lm} {a : Option Addr} {n c : Nat} {bs : List UInt8} (h : EndAt t w X F p m) (ht : t ≠ 31) (hm : m.ok 1000000000) (hX : ∀ k, X k → k < w.heap.size)
    (hn : bs.length = n) (hc : n ≤ c) (hr : Reads w a (vals bs)) (hl : n ≤ 1099511627776) :
    Calls Try.prog 29 #[.pointer (some ⟨p, 0, none⟩), .slice a n c] w (endW (TakeEnd t w X F p m bs) (fun _ _ => False)) := by
  refine F29_calls _ _ _ _ ?_
  delta F29
  refine Calls.then (rOpen hn hc hr hl) ?_
  rintro v w1 ⟨hc1, a1, c1, rfl, hrow1⟩
  have hol : (opened bs).2.length ≤ n := by
    unfold opened
    split
    · simp
    · split
      · split
        · simp; omega
        · simp
      · simp
  have hrow := hrow1 X fun k hk hx => by have := hX k hx; omega
  have h1 := h.chg hc1 fun k _ h => h.elim
  have hX1 : ∀ k, X k → k < w1.heap.size := fun k hk => Nat.lt_of_lt_of_le (hX k hk) hc1.size
  refine ⟨_, rfl, _, _, rfl, _, _, _, rfl, _, _, rfl, _, rfl, rfl, ?_⟩
  unfold TakeEnd
  rw [take_cases]
  generalize hop : opened bs = op at hol hrow ⊢
  obtain ⟨e, ds⟩ := op
  dsimp only at hol hrow ⊢
  by_cases he : e ≠ 0
  · rw [if_pos (by simpa using he), if_pos he]
    exact ⟨rfl, (Acted.same h1).pre hc1⟩
  rw [if_neg (by simpa using he), if_neg he]
  by_cases h14 : ds.length < 14
  · rw [if_pos (by simp; omega), if_pos h14]
    exact ⟨rfl, (Acted.same h1).pre hc1⟩
  rw [if_neg (by simp; omega), if_neg h14]
  refine Calls.then (split_ok hrow hX1 (by omega) (by omega)) ?_
  rintro v w2 ⟨hc2, a2, n2, c2, b2, rfl, hd⟩
  have hc12 := hc1.trans hc2
  have h2 := h.chg hc12 fun k _ h => h.elim
  have hA2 := (Acted.same h2).pre hc12
  refine ⟨_, rfl, _, _, rfl, _, _, _, rfl, _, _, rfl, _, rfl, rfl, ?_⟩
  obtain ⟨sv0, fv0, vs0, us0, hv2⟩ := id h2
  cases hp : parse ds with
  | none =>
    rw [hp] at hd
    dsimp only at hd ⊢
    subst hd
    rw [if_pos (by simp)]
    exact ⟨rfl, hA2⟩
  | some d =>
    rw [hp] at hd
    dsimp only at hd ⊢
    obtain ⟨rfl, hn2, vs, hvo, hvr, hvb⟩ := hd
    have hdw := parse_wf hp
    have hdep := hdw.ep
    have hdfi := hdw.first
    have hdco := hdw.come
    have hdle := hdw.len
    obtain ⟨q1, q2, q3⟩ := parse_fields hp
    have hrow2 := hrow.chg hc2 fun k _ h => h.elim
    have rd : ∀ {w3 : World}, Acted t w2 X F p m w3 ∨ True → Chg F w2 w3 → Reads w3 a1 (vals ds) := fun _ hc => (RowIn.rd (hrow2.chg hc fun k _ hk => hv2.fx k hk)).1
    unfold Lm.hear
    rw [if_neg (by simp)]
    refine Calls.then (rread_ok (at_ := 0) (k := 4) rfl (rd (.inr trivial) (Chg.refl _ _)) (by omega) (by omega) (by omega)) ?_
    rintro v w2' ⟨rfl, rfl⟩
    rw [List.drop_zero, ← q1]
    refine ⟨_, rfl, wSome_of rfl ⟨_, by rw [addK_lit]; exact (ecell hv2).1, ?_⟩⟩
    by_cases hep : d.ep < m.ep
    · rw [if_pos (by simp; omega), if_pos hep]
      exact ⟨rfl, hA2⟩
    rw [if_neg (by simp; omega), if_neg hep]
    refine ⟨fun _ w' => Acted t w2' X F p (m.heard d) w', ?_, ?_⟩
    · rintro s w4 ⟨F4, h4, hc4, hf4⟩ _
      obtain ⟨sv4, fv4, vs4, us4, hv4⟩ := id h4
      have hm4 := hm.heard hdw
      refine Calls.then (rread_ok (at_ := 4) (k := 4) rfl (rd (.inr trivial) hc4) (by omega) (by omega) (by omega)) ?_
      rintro v w4' ⟨rfl, rfl⟩
      rw [← q2]
      refine ⟨_, rfl, ?_⟩
      refine ⟨fun _ w' => Acted t w2' X F p ((m.heard d).acks d.come) w', ?_, ?_⟩
      · intro s w5 hA5 _
        have hm5 := hm4.acks hdw.come
        generalize hm2 : (m.heard d).acks d.come = m2 at hA5 hm5 ⊢
        have hc5 : Chg F w2' w5 := by obtain ⟨_, _, h, _⟩ := hA5; exact h
        refine Calls.then (rread_ok (at_ := 8) (k := 4) rfl (rd (.inr trivial) hc5) (by omega) (by omega) (by omega)) ?_
        rintro v w5' ⟨rfl, rfl⟩
        rw [← q3]
        refine ⟨_, rfl, ?_⟩
        refine ⟨fun s w' => ∃ (i : Nat) (mi : Lm), s = (i : Int) ∧ i ≤ d.ls.length ∧ Acted t w2' X F p mi w' ∧ mi.ok (1000000000 + i) ∧ feed d.first 0 d.ls m2 = feed d.first i (d.ls.drop i) mi, fun s _ => (32 - s).toNat,
          ⟨0, ⟨rfl, trivial⟩, 0, m2, rfl, Nat.zero_le _, hA5, hm5, rfl⟩, ?_⟩
        rintro s w6 ⟨i, mi, rfl, hi, hA6, hmi, hfeed⟩ _
        by_cases hlt : i < d.ls.length
        · rw [if_pos (by simp; omega)]
          obtain ⟨F6, h6, hc6, hf6⟩ := id hA6
          have hrowi := hvr.get (List.getElem?_eq_getElem hlt)
          obtain ⟨rv, hrv, hrow6⟩ := hrowi
          have hvo6 := hvo.chg hc6 fun k hk hF => by have := hvb k hk; have := hX1 k (hv2.fx k hF); omega
          obtain ⟨A, rfl, hcell⟩ := hvo6.reads i _ hrv
          obtain ⟨ra, rc, rfl, _⟩ := id hrow6
          have hrow6' : RowIn w6 (orX X F6) (.slice ra d.ls[i].length rc) d.ls[i] := (hrow6.wide (Y := orX X F6) fun k hk hx => hx.elim id fun hx => (hf6 k hx).elim (fun h => hv2.fx k h) fun h => by omega).chg hc6 fun k _ hk => .inl (hv2.fx k hk)
          obtain ⟨sv6, fv6, vs6, us6, hv6⟩ := h6
          obtain ⟨fa, fc, rfl⟩ := hv6.flen
          refine wSome_of rfl ⟨_, by rw [addK_lit]; exact (ecell hv6).2.2.2.1, ?_⟩
          have hmc := hmi.come
          have hmf := hmi.fresh
          have hw : (IntKind.wrap .u64 (IntKind.wrap .u64 (d.first : Int) + IntKind.wrap .u64 (i : Int)) == IntKind.wrap .u64 (mi.come : Int)) = decide (d.first + i = mi.come) := by
            rw [u64w (d.first : Int) (by omega) (by omega), u64w (i : Int) (by omega) (by omega), u64w (mi.come : Int) (by omega) (by omega), u64w _ (by omega) (by omega)]
            by_cases h : d.first + i = mi.come
            · rw [decide_eq_true h]; simp; omega
            · rw [decide_eq_false h]; simp; omega
          rw [hw]
          have hstep := feed_step (first := d.first) hlt mi
          have hi1 : IntKind.wrap .i64 ((i : Int) + 1) = ((i + 1 : Nat) : Int) := by rw [i64w _ (by omega) (by omega)]; omega
          by_cases heq : d.first + i = mi.come
          · rw [if_pos (by simpa using heq)]
            rw [if_pos heq] at hstep
            have hdr := chg_drew w6 NoS
            refine wSome_of rfl ⟨by omega, by omega, wSome_of rfl ⟨_, _, _, by rw [addK_lit]; exact (ecell (hv6.chg hdr fun k _ h => h.elim)).2.2.2.2, _, _, _, by rw [Int.toNat_natCast, Nat.mul_one]; exact hcell, (chg_alloc w6.drew _ NoS).sameOld, ?_⟩⟩
            refine push_fresh hv6 ht (by omega) hdr (hrow6'.chg hdr fun k _ h => h.elim) ?_
            intro w7 hA7
            refine ⟨((i + 1 : Nat) : Int), ⟨by rw [hi1], trivial⟩, ⟨i + 1, mi.add d.ls[i], rfl, by omega, Acted.after hc6.size hc6 hf6 hA7, by rw [show 1000000000 + (i + 1) = 1000000000 + i + 1 from by omega]; exact hmi.add _, by rw [hfeed, hstep]⟩, by dsimp only; omega⟩
          · rw [if_neg (by simpa using heq)]
            rw [if_neg heq] at hstep
            refine ⟨((i + 1 : Nat) : Int), ⟨by rw [hi1], trivial⟩, ⟨i + 1, mi, rfl, by omega, hA6, ⟨hmi.ep, hmi.got, hmi.come, hmi.sent, by omega⟩, by rw [hfeed, hstep]⟩, by dsimp only; omega⟩
        · rw [if_neg (by simp; omega)]
          have : i = d.ls.length := by omega
          subst this
          rw [List.drop_length] at hfeed
          refine ⟨rfl, Acted.pre hc12 ?_⟩
          rw [hfeed]
          exact hA6
      · have hd1 := chg_drew w4' NoS
        have hd2 := hd1.trans (chg_drew w4'.drew NoS)
        have h41 := hv4.chg hd1 fun k _ h => h.elim
        have h42 := hv4.chg hd2 fun k _ h => h.elim
        have hA4 : Acted t w2' X F p (m.heard d) w4' := ⟨F4, h4, hc4, hf4⟩
        obtain ⟨sa, sc, rfl⟩ := hv4.len
        generalize hmm : m.heard d = m1 at *
        have hg := hm4.got
        have hse := hm4.sent
        refine wSome_of rfl ⟨_, by rw [addK_lit]; exact (ecell h41).2.2.1, ?_⟩
        unfold Lm.acks
        rw [u64w (d.come : Int) (by omega) (by omega), u64w (m1.got : Int) (by omega) (by omega)]
        by_cases hgc : m1.got < d.come
        · rw [if_pos (by simp; omega)]
          refine wSome_of rfl (wSome_of rfl ⟨_, by rw [addK_lit]; exact (ecell h41).2.2.1, _, _, _, by rw [addK_lit]; exact (ecell h41).2.1, ?_⟩)
          rw [u64w (m1.got : Int) (by omega) (by omega), u64w (m1.sent.length : Int) (by omega) (by omega), u64w ((m1.got : Int) + (m1.sent.length : Int)) (by omega) (by omega)]
          by_cases hle : d.come ≤ m1.got + m1.sent.length
          · rw [if_pos (by simp; omega), if_pos ⟨hgc, hle⟩]
            have hsub : IntKind.wrap .u64 ((d.come : Int) - IntKind.wrap .u64 (m1.got : Int)) = ((d.come - m1.got : Nat) : Int) := by rw [u64w (m1.got : Int) (by omega) (by omega), u64w _ (by omega) (by omega)]; omega
            refine wSome_of rfl (wSome_of rfl ⟨_, _, _, by rw [addK_lit]; exact (ecell h42).2.1, _, by rw [addK_lit]; exact (ecell h42).2.2.1, ?_⟩)
            have hw32 : IntKind.wrap .u32 (d.come : Int) = (d.come : Int) := IntWalk.u32_in _ (by omega)
            rw [hsub, hw32]
            refine ⟨by omega, by omega, wSome_of rfl ?_⟩
            rw [addK_lit, Int.toNat_natCast]
            refine cut_sent h42 ht (by omega) ?_
            intro w7 he7 hc7 hz7
            refine ⟨(), trivial, Acted.after (w1 := w4'.drew.drew) (F1 := F4) (Nat.le_trans hc4.size hd2.size) (hc4.trans (hd2.mono fun k _ h => h.elim)) hf4 ?_⟩
            exact ⟨F4, he7.wide (fun k _ hk => hk.elim id fun hk => .inr hk) fun k hk => .inr hk, hc7.mono fun k _ e => h42.fp k (.inl e), fun k hk => .inl hk⟩
          · rw [if_neg (by simp; omega), if_neg (fun hh => hle hh.2)]
            exact ⟨(), trivial, hA4.post hd1⟩
        · rw [if_neg (by simp; omega), if_neg (fun hh => hgc hh.1)]
          exact ⟨(), trivial, hA4.post hd1⟩
    · refine wSome_of rfl ⟨_, by rw [addK_lit]; exact (ecell hv2).1, ?_⟩
      unfold Lm.heard
      by_cases hgt : m.ep < d.ep
      · rw [if_pos (by simp; omega), if_pos hgt]
        refine Calls.then (rReset_ok h2) ?_
        rintro v w4 ⟨rfl, he4, hc4, hz4⟩
        exact ⟨(), trivial, F, he4.wide (fun k _ hk => hk.elim id fun hk => hv2.fx k hk) fun k hk => .inr hk, hc4.mono fun k _ e => hv2.fp k (.inl e), fun k hk => .inl hk⟩
      · rw [if_neg (by simp; omega), if_neg hgt]
        exact ⟨(), trivial, Acted.same h2⟩
end Go.Proofs.Ytooebmpjmcmkoaa.B
