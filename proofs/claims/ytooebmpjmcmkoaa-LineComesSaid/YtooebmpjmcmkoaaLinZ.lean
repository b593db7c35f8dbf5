/-
  LineOrder: the walk.
-/
import Derived.Test.YtooebmpjmcmkoaaLinY
import Derived.Test.YtooebmpjmcmkoaaLinT
set_option maxRecDepth 100000
set_option linter.unusedVariables false
set_option linter.unusedSimpArgs false
namespace Go.Proofs.Ytooebmpjmcmkoaa.B
open Go Go.Proofs Go.Proofs.YtooebmpjmcmkoaaEng

theorem rows_take {X : Nat → Prop} {w : World} : ∀ {vs : List Value} {ls : List (List UInt8)} (j : Nat), BRows w X vs ls → BRows w X (vs.take j) (ls.take j)
  | [], [], j, h => by simp [BRows]
  | v :: vs, l :: ls, 0, h => trivial
  | v :: vs, l :: ls, j + 1, h => ⟨h.1, rows_take j h.2⟩
  | [], _ :: _, _, h => h.elim
  | _ :: _, [], _, h => h.elim
theorem idx_ok {s d : Int} {n : Nat} (hs : 0 ≤ s) (hs2 : s ≤ 9223372036854775807) (hd : 0 < d) (hn : 0 < n) : ∃ j : Nat, j < n ∧ Int.tmod (IntKind.wrap .i64 (Int.tdiv s d)) n = j := by
  have h1 : Int.tdiv s d = s / d := Int.tdiv_eq_ediv_of_nonneg hs
  have h2 : 0 ≤ s / d := Int.ediv_nonneg hs (by omega)
  have h3 : s / d ≤ s := Int.ediv_le_self _ hs
  rw [h1, i64w _ (by omega) (by omega), Int.tmod_eq_emod_of_nonneg h2]
  have h4 := Int.emod_nonneg (s / d) (b := n) (by omega)
  have h5 := Int.emod_lt_of_pos (s / d) (b := (n : Int)) (by omega)
  exact ⟨((s / d) % n).toNat, by omega, by omega⟩
/-- a byte from 1 to 255 -/
theorem byte_ne {j : Nat} (h : j < 255) : BitVec.ofInt 8 (IntKind.wrap .u8 (IntKind.wrap .i64 (1 + (j : Int)))) ≠ 0#8 := by
  rw [i64w _ (by omega) (by omega), show (1 + (j : Int)) = ((j + 1 : Nat) : Int) from by omega]
  intro e
  have e2 := congrArg BitVec.toNat e
  rw [IntKind.wrap_u8] at e2
  simp at e2
  omega
abbrev St := (Option Addr × Nat × Nat × Option Addr × Nat × Nat × Option Addr × Nat × Nat × Option Addr × Nat × Nat × Int)
/-- the whole of what the loop keeps -/
def Loop (w0 : World) (p q : Nat) (P Q : List (List UInt8)) (k : Nat) (s : St) (w : World) : Prop :=
  Ord 7 w0 0 1 10 11 12 13 p q P Q (.slice s.1 s.2.1 s.2.2.1) (.slice s.2.2.2.1 s.2.2.2.2.1 s.2.2.2.2.2.1) (.slice s.2.2.2.2.2.2.1 s.2.2.2.2.2.2.2.1 s.2.2.2.2.2.2.2.2.1) (.slice s.2.2.2.2.2.2.2.2.2.1 s.2.2.2.2.2.2.2.2.2.2.1 s.2.2.2.2.2.2.2.2.2.2.2.1) k k w

theorem eA_side {E : Nat} {P Q : List (List UInt8)} (r : Nat) (hr : r ≤ P.length) : Side E P Q [] (eA E P) r :=
  ⟨rfl, by show [] ++ P = P.drop 0; simp, Nat.zero_le _, hr, Nat.zero_le _, by show [] ++ [] = Q.take 0; simp⟩
theorem Ord.start {E : Nat} {w0 w : World} {X : Nat → Prop} {ms : Ents} {p q : Nat} {P Q : List (List UInt8)} (h : Ent w0 w X ms) (m0 : ms 0 = some (54, p, eA E P)) (m1 : ms 1 = some (54, q, eA E Q)) (hm : ∀ j, 2 ≤ j → ms j = none) (hE : E < 4294967296)
    (hp : P.length ≤ 60) (hp4 : ∀ l ∈ P, l.length ≤ 4096) (hq : Q.length ≤ 60) (hq4 : ∀ l ∈ Q, l.length ≤ 4096) (k : Nat) :
    Ord E w0 0 1 10 11 12 13 p q P Q (.slice none 0 0) (.slice none 0 0) (.slice none 0 0) (.slice none 0 0) k k w := by
  obtain ⟨Fs, h⟩ := h
  have h0 : Sys w0 w X Fs ms (fun _ => none) := ⟨h, fun i v l hi => by cases hi⟩
  have h1 := ((((h0.nil (i := 10) (hm 10 (by omega))).nil (i := 11) (hm 11 (by omega))).nil (i := 12) (hm 12 (by omega))).nil (i := 13) (hm 13 (by omega)))
  exact ⟨X, Fs, ms, _, _, _, [], [], [], [], h1, m0, m1, rfl, rfl, rfl, rfl, by decide, by decide, by decide, by decide, by decide, by decide, by decide, eA_side 0 (Nat.zero_le _), eA_side 0 (Nat.zero_le _), (fun d hd => by cases hd), (fun d hd => by cases hd), Nat.zero_le _, Nat.zero_le _, hE, hp, hp4, hq, hq4⟩

/-- what is done with a datagram, at one of the two ends -/
theorem LineOrder_walk (a0 : Option Addr) (len0 cap0 : Nat) (a1 : Option Addr) (len1 cap1 : Nat) (a2 : Option Addr) (len2 cap2 : Nat) (w : World) (i0 : Is maxLen Try.prog w 12 30 [.slice a0 len0 cap0]) (i1 : Is maxLen Try.prog w 12 30 [.slice a1 len1 cap1]) (i2 : Is maxLen Try.prog w 12 46 [.slice a2 len2 cap2]) :
    Calls Try.prog 6 #[.slice a0 len0 cap0, .slice a1 len1 cap1, .slice a2 len2 cap2] w (endW (fun v w' => v = .bool true ∧ Chg NoS w w') (fun _ _ => False)) := by
  obtain ⟨vp, lp, hrp, hbp, hlp, hBp, _⟩ := rows_of_is (m := 9) i0
  obtain ⟨vq, lq, hrq, hbq, hlq, hBq, _⟩ := rows_of_is (m := 9) i1
  obtain ⟨a2', len2', cap2', e2, hl2, _, _, zs, hzl, hzw, hzr⟩ := i2.ints Try.underlying46 Try.underlying3 (by kernel_rfl)
  injection e2 with e2 _
  injection e2 with e2a e2b e2c
  subst e2a e2b e2c
  obtain ⟨hcp, _⟩ : len0 ≤ cap0 ∧ True := by
    obtain ⟨a', n', c', e, h1, _⟩ := i0.slice und30
    injection e with e _
    injection e with e1 e2 e3
    subst e1 e2 e3
    exact ⟨h1, trivial⟩
  obtain ⟨hcq, _⟩ : len1 ≤ cap1 ∧ True := by
    obtain ⟨a', n', c', e, h1, _⟩ := i1.slice und30
    injection e with e _
    injection e with e1 e2 e3
    subst e1 e2 e3
    exact ⟨h1, trivial⟩
  subst hlp hlq
  refine F6_calls _ _ _ _ _ _ _ _ _ ?_
  delta F6
  have wk : ∀ {w' : World}, Chg NoS w w' → Calls Try.prog 10 #[] w' (endW (fun v w' => ∃ b, v = .bool b ∧ ((.bool b : Value) = .bool true ∧ Chg NoS w w')) fun _ _ => False) := fun hc => Calls.then (wakes_ok _) fun v w2 hv => ⟨true, hv.1, rfl, hc.trans hv.2⟩
  refine ⟨fun _ w' => w' = w ∧ (lp.length ≤ 60 ∧ ∀ l ∈ lp, l.length ≤ 4096) ∧ (lq.length ≤ 60 ∧ ∀ l ∈ lq, l.length ≤ 4096) ∧ len2 ≤ 400, ?_, ?_⟩
  · rintro s w' ⟨rfl, ⟨hp60, hp4⟩, ⟨hq60, hq4⟩, hair⟩ _
    have h0 : Ent w' w' (fun _ => False) (fun _ => none) := ⟨_, Sts.start w'⟩
    refine Calls.then (New_ok (ep := 7)) ?_
    rintro v w1 ⟨rfl, rfl⟩
    refine ⟨_, rfl, ?_⟩
    obtain ⟨X1, h1, _⟩ := h0.born (i := 0) (t := 54) (ep := 7) rfl (by decide)
    generalize w'.alloc (.cells (ecells (Lm.new 7) (.slice none 0 0) (.slice none 0 0)) 54) = w1 at h1 ⊢
    generalize w'.heap.size = p0 at h1 ⊢
    refine Calls.then (New_ok (ep := 7)) ?_
    rintro v w2 ⟨rfl, rfl⟩
    refine ⟨_, rfl, ?_⟩
    obtain ⟨X2, h2, _⟩ := h1.born (i := 1) (t := 54) (ep := 7) rfl (by decide)
    generalize w1.alloc (.cells (ecells (Lm.new 7) (.slice none 0 0) (.slice none 0 0)) 54) = w2 at h2 ⊢
    generalize w1.heap.size = p1 at h2 ⊢
    refine ⟨fun _ w4 => Ord 7 w' 0 1 10 11 12 13 p0 p1 lp lq (.slice none 0 0) (.slice none 0 0) (.slice none 0 0) (.slice none 0 0) 0 0 w4, ?_, ?_⟩
    · rintro s w4 h4 _
      refine ⟨fun s w => ∃ k : Nat, s.2.2.2.2.2.2.2.2.2.2.2.2 = (k : Int) ∧ k ≤ len2 ∧ Loop w' p0 p1 lp lq k s w, fun s _ => (len2 - s.2.2.2.2.2.2.2.2.2.2.2.2).toNat, ⟨(none, 0, 0, none, 0, 0, none, 0, 0, none, 0, 0, 0), ⟨rfl, rfl, rfl, rfl, rfl, trivial⟩, 0, rfl, Nat.zero_le _, h4⟩, ?_⟩
      rintro ⟨aa, na, ca, ab, nb, cb, ax, nx, cx, ay, ny, cy, _⟩ w5 ⟨k, hk, hkl, h5⟩ _
      dsimp only at hk
      subst hk
      have h5 : Ord 7 w' 0 1 10 11 12 13 p0 p1 lp lq (.slice aa na ca) (.slice ab nb cb) (.slice ax nx cx) (.slice ay ny cy) k k w5 := h5
      dsimp only
      by_cases hlt : k < len2
      · rw [if_pos (by simp; omega)]
        have hzg : (zs.map (Value.int .i64))[k]? = some (.int .i64 zs[k]) := by simp [hzl, hlt]
        obtain ⟨A, rfl, hcell⟩ := hzr k _ hzg
        have hwf := hzw _ (List.getElem_mem (show k < zs.length by omega))
        have hzb : -9223372036854775808 ≤ zs[k] ∧ zs[k] ≤ 9223372036854775807 := by simpa [Lit.wf, IntKind.min, IntKind.max, IntKind.signed, IntKind.bits] using hwf
        refine ⟨by omega, by omega, wSome_of rfl ⟨_, by rw [Int.toNat_natCast, Nat.mul_one]; exact h5.ch.sameOld.cell hcell, ?_⟩⟩
        refine ⟨fun s_1 w_1 => w_1 = w5 ∧ 0 ≤ s_1 ∧ s_1 ≤ 9223372036854775807, ?_, ?_⟩
        · rintro s_1 w_1 ⟨rfl, hs0, hs1⟩ _
          refine ⟨fun s_2 w_2 => w_2 = w_1 ∧ (s_2 = (some ⟨p1, 0, none⟩, aa, na, ca) ∨ s_2 = (some ⟨p0, 0, none⟩, ab, nb, cb)), ?_, ?_⟩
          · rintro s_2 w_2 ⟨rfl, hs2⟩ _
            refine ⟨fun s_3 w_3 => Ord 7 w' 0 1 10 11 12 13 p0 p1 lp lq (.slice s_3.1 s_3.2.1 s_3.2.2.1) (.slice s_3.2.2.2.1 s_3.2.2.2.2.1 s_3.2.2.2.2.2) (.slice ax nx cx) (.slice ay ny cy) (k + 1) (k + 1) w_3, ?_, by decide, by decide, ?_⟩
            · rintro ⟨ba, ma, da, bb, mb, db⟩ w_3 h6 _
              dsimp only at h6 ⊢
              refine Calls.then h6.swap.came ?_
              rintro v w7 ⟨ra, rn, rc, rfl, happ⟩
              refine ⟨_, _, _, rfl, happ ?_⟩
              intro ea en ec w8 h8
              refine ⟨_, _, _, rfl, ?_⟩
              refine Calls.then h8.swap.came ?_
              rintro v w9 ⟨ra, rn, rc, rfl, happ⟩
              refine ⟨_, _, _, rfl, happ ?_⟩
              intro fa fn fc w10 h10
              refine ⟨_, _, _, rfl, (ba, ma, da, bb, mb, db, ea, en, ec, fa, fn, fc, ((k + 1 : Nat) : Int)), ⟨rfl, rfl, rfl, rfl, by rw [i64w _ (by omega) (by omega)]; rfl, trivial⟩, ⟨k + 1, rfl, by omega, h10⟩, by dsimp only; omega⟩
            · by_cases c0 : (Int.tmod (IntKind.wrap .i64 (Int.tdiv s_1 2)) 4 == 0) = true
              · rw [if_pos c0]
                refine Calls.then (h5.tick (by omega)) ?_
                rintro v w6 ⟨ra, rn, rc, rfl, happ⟩
                refine ⟨_, _, _, rfl, happ ?_⟩
                intro ea en ec w7 h7
                refine ⟨_, _, _, rfl, ?_⟩
                refine Calls.then (h7.swap.tick (by omega)) ?_
                rintro v w8 ⟨ra, rn, rc, rfl, happ⟩
                refine ⟨_, _, _, rfl, happ ?_⟩
                intro fa fn fc w9 h9
                exact ⟨_, _, _, rfl, (ea, en, ec, fa, fn, fc), ⟨rfl, rfl, trivial⟩, h9.swap⟩
              · rw [if_neg c0]
                have hkeep : ∀ {w6 : World}, Ord 7 w' 0 1 10 11 12 13 p0 p1 lp lq (.slice aa na ca) (.slice ab nb cb) (.slice ax nx cx) (.slice ay ny cy) k k w6 → ∃ s : (Option Addr × Nat × Nat × Option Addr × Nat × Nat), (Value.slice s.1 s.2.1 s.2.2.1 = .slice aa na ca ∧ Value.slice s.2.2.2.1 s.2.2.2.2.1 s.2.2.2.2.2 = .slice ab nb cb ∧ True) ∧
                    Ord 7 w' 0 1 10 11 12 13 p0 p1 lp lq (.slice s.1 s.2.1 s.2.2.1) (.slice s.2.2.2.1 s.2.2.2.2.1 s.2.2.2.2.2) (.slice ax nx cx) (.slice ay ny cy) (k + 1) (k + 1) w6 :=
                  fun h => ⟨(aa, na, ca, ab, nb, cb), ⟨rfl, rfl, trivial⟩, h.wide (by omega) (by omega)⟩
                refine ⟨fun _ w6 => w6 = w_2, ?_, ?_⟩
                · rintro s_3 w6 rfl _
                  obtain ⟨pe, be, ne, ce⟩ := s_2
                  dsimp only at hs2 ⊢
                  -- the two ends in one
                  have htake : ∀ j, j < ne → ∃ A ra rn rc, be = some A ∧ w6.cell? (addK A j) = some (.slice ra rn rc) ∧
                      Calls Try.prog 19 #[.pointer pe, .slice ra rn rc] w6 (endW (fun v w7 => v = .int .i64 0 ∧ Ord 7 w' 0 1 10 11 12 13 p0 p1 lp lq (.slice aa na ca) (.slice ab nb cb) (.slice ax nx cx) (.slice ay ny cy) k k w7) (fun _ _ => False)) := by
                    intro j hj
                    rcases hs2 with e | e
                    · cases e
                      obtain ⟨A, ra, rn, rc, h1, h2, h3⟩ := h5.swap.take hj
                      exact ⟨A, ra, rn, rc, h1, h2, Calls.then h3 fun v w7 hv => ⟨hv.1, hv.2.swap⟩⟩
                    · cases e
                      exact h5.take hj
                  have hbad : ∀ j, j < ne → ∃ A ra rn rc, be = some A ∧ (w6.alloc (.cells #[] 5)).cell? (addK A j) = some (.slice ra rn rc) ∧ 4 ≤ rn ∧ rn ≤ 20000 ∧ ∀ {K : Value → World → Prop} {Ex : PanW},
                      (∀ a' c' w2, (∀ i, i < rn → ∃ B x, a' = some B ∧ w2.cell? (addK B i) = some (.int .u8 x) ∧ ∀ (d : BitVec 8) (K2 : World → Prop), d ≠ 0#8 →
                        (∀ w3, Calls Try.prog 19 #[.pointer pe, .slice a' rn c'] w3 (endW (fun v w7 => ∃ z, v = .int .i64 z ∧ z ≠ 0 ∧ Ord 7 w' 0 1 10 11 12 13 p0 p1 lp lq (.slice aa na ca) (.slice ab nb cb) (.slice ax nx cx) (.slice ay ny cy) k k w7) (fun _ _ => False)) → K2 w3) →
                        setW w2 (addK B i) (.int .u8 (IntKind.wrap .u8 ((BitVec.ofInt 8 x ^^^ d).toNat : Int))) K2) → K (.slice a' rn c') w2) →
                      runV Try.prog (Builtin.append_ #[31, 31] 31 #[.slice (some ⟨w6.heap.size, 0, none⟩) 0 0, .slice ra rn rc]) (w6.alloc (.cells #[] 5)) K Ex := by
                    intro j hj
                    rcases hs2 with e | e
                    · cases e
                      obtain ⟨A, ra, rn, rc, h1, h2, h4, h5', h6⟩ := h5.swap.bad hj
                      refine ⟨A, ra, rn, rc, h1, h2, h4, h5', ?_⟩
                      intro K Ex hK
                      refine h6 fun a' c' w2 hb => hK a' c' w2 fun i hi => ?_
                      obtain ⟨B, x, g1, g2, g3⟩ := hb i hi
                      refine ⟨B, x, g1, g2, fun d K2 hd hK2 => g3 d K2 hd fun w3 hc => hK2 w3 (Calls.then hc ?_)⟩
                      rintro v w7 ⟨z, e1, e2, e3⟩
                      exact ⟨z, e1, e2, e3.swap⟩
                    · cases e
                      exact h5.bad hj
                  by_cases c1 : s_3 = true
                  · rw [if_pos c1]
                    by_cases hne : 0 < ne
                    · rw [if_pos (by simp; omega)]
                      obtain ⟨j, hj, ej⟩ := idx_ok (d := 8) hs0 hs1 (by omega) hne
                      simp only [ej, Int.toNat_natCast, Nat.mul_one]
                      obtain ⟨B, ra, rn, rc, hB, hc, hcall⟩ := htake j hj
                      refine ⟨by omega, by omega, by omega, by omega, wSome_of hB ⟨_, _, _, hc, ?_⟩⟩
                      refine Calls.then hcall ?_
                      rintro v w7 ⟨rfl, h7⟩
                      refine ⟨_, rfl, ?_⟩
                      rw [if_neg (by simp)]
                      exact hkeep h7
                    · rw [if_neg (by simp; omega)]
                      exact hkeep h5
                  · rw [if_neg c1]
                    by_cases c3 : (Int.tmod (IntKind.wrap .i64 (Int.tdiv s_1 2)) 4 == 3) = true
                    · rw [if_pos c3]
                      by_cases hne : 0 < ne
                      · rw [if_pos (by simp; omega)]
                        obtain ⟨j, hj, ej⟩ := idx_ok (d := 8) hs0 hs1 (by omega) hne
                        simp only [ej, Int.toNat_natCast, Nat.mul_one]
                        obtain ⟨B, ra, rn, rc, hB, hc, hrn4, hrn2, happ⟩ := hbad j hj
                        refine ⟨by omega, by omega, by omega, by omega, wSome_of hB ⟨_, _, _, hc, ?_⟩⟩
                        refine happ ?_
                        intro a' c' w7 hstore
                        obtain ⟨i, hi, ei⟩ := idx_ok (d := 16) hs0 hs1 (by omega) (show 0 < rn by omega)
                        obtain ⟨b, hb, eb⟩ := idx_ok (d := 32) hs0 hs1 (by omega) (show 0 < 255 by omega)
                        have eb' : Int.tmod (IntKind.wrap .i64 (Int.tdiv s_1 32)) 255 = (b : Int) := eb
                        obtain ⟨B2, x, hB2, hcell2, hset⟩ := hstore i hi
                        refine ⟨_, _, _, rfl, ?_⟩
                        simp only [ei, eb', Int.toNat_natCast, Nat.mul_one]
                        refine ⟨by omega, by omega, by omega, by omega, wSome_of hB2 ⟨_, hcell2, by omega, by omega, by omega, by omega, wSome_of hB2 ?_⟩⟩
                        refine hset _ _ (byte_ne hb) ?_
                        intro w8 hcall
                        refine Calls.then hcall ?_
                        rintro v w9 ⟨z, rfl, hz, h9⟩
                        refine ⟨_, rfl, ?_⟩
                        rw [if_neg (by simp [hz])]
                        exact hkeep h9
                      · rw [if_neg (by simp; omega)]
                        exact hkeep h5
                    · rw [if_neg c3]
                      exact hkeep h5
                · by_cases c1 : (Int.tmod (IntKind.wrap .i64 (Int.tdiv s_1 2)) 4 == 1) = true
                  · rw [if_pos c1]
                    exact ⟨_, ⟨rfl, trivial⟩, rfl⟩
                  · rw [if_neg c1]
                    exact ⟨_, ⟨rfl, trivial⟩, rfl⟩
          · by_cases c1 : (IntKind.wrap .i64 ((BitVec.ofInt 64 s_1 &&& BitVec.ofInt 64 1).toNat : Int) == 1) = true
            · rw [if_pos c1]
              exact ⟨(some ⟨p0, 0, none⟩, ab, nb, cb), ⟨rfl, rfl, trivial⟩, rfl, .inr rfl⟩
            · rw [if_neg c1]
              exact ⟨(some ⟨p1, 0, none⟩, aa, na, ca), ⟨rfl, rfl, trivial⟩, rfl, .inl rfl⟩
        · by_cases hneg : zs[k] < 0
          · rw [if_pos (by simp; omega)]
            refine ⟨_, ⟨rfl, trivial⟩, rfl, ?_⟩
            rw [i64w (zs[k] + 1) (by omega) (by omega), i64w _ (by omega) (by omega)]
            omega
          · rw [if_neg (by simp; omega)]
            exact ⟨_, ⟨rfl, trivial⟩, rfl, by omega, by omega⟩
      · rw [if_neg (by simp; omega)]
        obtain ⟨lx, usx, Xx, hnx, hrx, hbx, hlx, hex⟩ := h5.swap.told
        obtain ⟨ly, usy, Xy, hny, hry, hby, hly, hey⟩ := h5.told
        have hc5 := h5.ch
        rw [if_pos (by simp; omega)]
        refine ⟨by omega, by omega, ?_⟩
        rw [cut0, Nat.sub_zero, Nat.sub_zero, Int.toNat_natCast]
        have keep : ∀ {a : Option Addr} {vs : List Value}, Reads w' a vs → Reads w5 a vs := fun h j u hu => by obtain ⟨A, hA, hcl⟩ := h j u hu; exact ⟨A, hA, hc5.sameOld.cell hcl⟩
        have hlen1 : (lp.take nx).length = nx := by rw [List.length_take]; omega
        have hlen2 : (lq.take ny).length = ny := by rw [List.length_take]; omega
        have hall := All_ok (c := cx) (c2 := cap0) hrx hbx (reads_take (keep hrp) nx) ((rows_take nx hbp).chg hc5 fun k _ h => h.elim) (by omega) (by omega) (fun l hl => by rw [hex] at hl; have := hp4 l (List.mem_of_mem_take hl); omega) (fun l hl => by have := hp4 l (List.mem_of_mem_take hl); omega)
        rw [hlen1, ← hnx] at hall
        refine Calls.then hall ?_
        rintro v w6 ⟨rfl, hc6⟩
        refine ⟨_, rfl, ?_⟩
        rw [if_pos (by simp [hex])]
        rw [if_pos (by simp; omega)]
        refine ⟨by omega, by omega, ?_⟩
        rw [cut0, Nat.sub_zero, Nat.sub_zero, Int.toNat_natCast]
        have keep2 : ∀ {a : Option Addr} {vs : List Value}, Reads w5 a vs → Reads w6 a vs := fun h j u hu => by obtain ⟨A, hA, hcl⟩ := h j u hu; exact ⟨A, hA, hc6.sameOld.cell hcl⟩
        have hall2 := All_ok (c := cy) (c2 := cap1) (keep2 hry) (hby.chg hc6 fun k _ h => h.elim) (reads_take (keep2 (keep hrq)) ny) ((rows_take ny hbq).chg (hc5.trans hc6) fun k _ h => h.elim) (by omega) (by omega) (fun l hl => by rw [hey] at hl; have := hq4 l (List.mem_of_mem_take hl); omega) (fun l hl => by have := hq4 l (List.mem_of_mem_take hl); omega)
        rw [hlen2, ← hny] at hall2
        refine Calls.then hall2 ?_
        rintro v w7 ⟨rfl, hc7⟩
        refine ⟨_, rfl, ?_⟩
        rw [if_pos (by simp [hey])]
        exact wk ((hc5.trans hc6).trans hc7)
    · refine Calls.then (sent_ok h2 (i := 0) (t := 54) (p := p0) (m := Lm.new 7) rfl hrp hbp (fun l hl => by have := hp4 l hl; omega) (by show 0 + lp.length ≤ _; omega)) ?_
      rintro v w4 ⟨rfl, X4, ms4, h4, hi4, ho4, hk4, hg4⟩
      refine ⟨_, rfl, ?_⟩
      rw [if_pos (by simp)]
      refine Calls.then (sent_ok h4 (i := 1) (t := 54) (p := p1) (m := Lm.new 7) (by rw [ho4 1 (by decide)]; rfl) hrq hbq (fun l hl => by have := hq4 l hl; omega) (by show 0 + lq.length ≤ _; omega)) ?_
      rintro v w5 ⟨rfl, X5, ms5, h5, hi5, ho5, hk5, hg5⟩
      refine ⟨_, rfl, ?_⟩
      rw [if_neg (by simp)]
      refine ⟨(), trivial, Ord.start h5 (by rw [ho5 0 (by decide)]; exact hi4) hi5 (fun j hj => ?_) (by omega) hp60 hp4 hq60 hq4 0⟩
      rw [ho5 j (by omega), ho4 j (by omega), upd_other (by omega), upd_other (by omega)]
  · refine Calls.then (small_ok hrp hbp hBp) ?_
    rintro v w1 ⟨⟨b1, rfl, hs1⟩, rfl⟩
    refine ⟨_, rfl, ?_⟩
    cases b1 with
    | false => rw [if_neg (by simp)]; exact wk (Chg.refl _ _)
    | true =>
      rw [if_pos (by simp)]
      refine Calls.then (small_ok hrq hbq hBq) ?_
      rintro v w2 ⟨⟨b2, rfl, hs2⟩, rfl⟩
      refine ⟨_, rfl, ?_⟩
      cases b2 with
      | false => rw [if_neg (by simp)]; exact wk (Chg.refl _ _)
      | true =>
        rw [if_pos (by simp)]
        by_cases h400 : len2 ≤ 400
        · rw [if_neg (by simp; omega)]
          exact ⟨(), trivial, rfl, hs1 rfl, hs2 rfl, h400⟩
        · rw [if_pos (by simp; omega)]
          exact wk (Chg.refl _ _)
end Go.Proofs.Ytooebmpjmcmkoaa.B
