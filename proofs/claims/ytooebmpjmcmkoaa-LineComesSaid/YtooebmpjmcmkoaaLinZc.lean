/-
  LineComes: the walk.
-/
import Derived.Test.YtooebmpjmcmkoaaLinZa
set_option maxRecDepth 100000
set_option linter.unusedVariables false
set_option linter.unusedSimpArgs false
namespace Go.Proofs.Ytooebmpjmcmkoaa.B
open Go Go.Proofs Go.Proofs.YtooebmpjmcmkoaaEng

abbrev St2 := (Option Addr × Nat × Nat × Option Addr × Nat × Nat × Int × Int × Int)
def Rnd (w0 : World) (p q : Nat) (P Q : List (List UInt8)) (k B t : Nat) (s : St2) (w : World) : Prop :=
  ∃ (la lb : Nat) (X : Nat → Prop) (Fs : Nat → Nat → Prop) (ms : Ents) (Ls : Lss) (ma mb : Lm) (lx ly : List (List UInt8)),
    OrdP 1 w0 w 0 1 10 11 12 13 p q P Q (.slice none 0 0) (.slice none 0 0) (.slice s.1 s.2.1 s.2.2.1) (.slice s.2.2.2.1 s.2.2.2.2.1 s.2.2.2.2.2.1) 0 0 X Fs ms Ls ma mb [] [] lx ly ∧
    s.2.2.2.2.2.2 = ((la : Int), (lb : Int), (t : Int)) ∧ ma.fresh = [] ∧ mb.fresh = [] ∧ la < k ∧ lb < k ∧ Go1 k B t P.length mb.come ma.got la lb ∧ Go1 k B t Q.length ma.come mb.got lb la

theorem LineComes_walk (a0 : Option Addr) (len0 cap0 : Nat) (a1 : Option Addr) (len1 cap1 : Nat) (a2 : Int) (a3 : Option Addr) (len3 cap3 : Nat) (w : World) (i0 : Is maxLen Try.prog w 12 30 [.slice a0 len0 cap0]) (i1 : Is maxLen Try.prog w 12 30 [.slice a1 len1 cap1]) (i2 : Is maxLen Try.prog w 12 3 [.int .i64 a2]) (i3 : Is maxLen Try.prog w 12 46 [.slice a3 len3 cap3]) :
    Calls Try.prog 7 #[.slice a0 len0 cap0, .slice a1 len1 cap1, .int .i64 a2, .slice a3 len3 cap3] w (endW (fun v w' => v = .bool true ∧ Chg NoS w w') (fun _ _ => False)) := by
  obtain ⟨vp, lp, hrp, hbp, hlp, hBp, _⟩ := rows_of_is (m := 9) i0
  obtain ⟨vq, lq, hrq, hbq, hlq, hBq, _⟩ := rows_of_is (m := 9) i1
  obtain ⟨a3', len3', cap3', e3, hl3, _, _, zs, hzl, hzw, hzr⟩ := i3.ints Try.underlying46 Try.underlying3 (by kernel_rfl)
  injection e3 with e3 _
  injection e3 with e3a e3b e3c
  subst e3a e3b e3c
  subst hlp hlq
  obtain ⟨k, hk0, hk7, hke⟩ := seven a2
  refine F7_calls _ _ _ _ _ _ _ _ _ _ ?_
  delta F7
  have wk : ∀ {w' : World}, Chg NoS w w' → Calls Try.prog 10 #[] w' (endW (fun v w' => ∃ b, v = .bool b ∧ ((.bool b : Value) = .bool true ∧ Chg NoS w w')) fun _ _ => False) := fun hc => Calls.then (wakes_ok _) fun v w2 hv => ⟨true, hv.1, rfl, hc.trans hv.2⟩
  refine ⟨fun _ w' => w' = w ∧ (lp.length ≤ 40 ∧ ∀ l ∈ lp, l.length ≤ 4096) ∧ (lq.length ≤ 40 ∧ ∀ l ∈ lq, l.length ≤ 4096) ∧ len3 ≤ 1000, ?_, ?_⟩
  · rintro s w' ⟨rfl, ⟨hp40, hp4⟩, ⟨hq40, hq4⟩, hwh⟩ _
    rw [hke]
    refine ⟨by omega, by omega, ?_⟩
    have h0 : Ent w' w' (fun _ => False) (fun _ => none) := ⟨_, Sts.start w'⟩
    refine Calls.then (New_ok (ep := 1)) ?_
    rintro v w1 ⟨rfl, rfl⟩
    refine ⟨_, rfl, ?_⟩
    obtain ⟨X1, h1, _⟩ := h0.born (i := 0) (t := 54) (ep := 1) rfl (by decide)
    generalize w'.alloc (.cells (ecells (Lm.new 1) (.slice none 0 0) (.slice none 0 0)) 54) = w1 at h1 ⊢
    generalize w'.heap.size = p0 at h1 ⊢
    refine Calls.then (New_ok (ep := 1)) ?_
    rintro v w2 ⟨rfl, rfl⟩
    refine ⟨_, rfl, ?_⟩
    obtain ⟨X2, h2, _⟩ := h1.born (i := 1) (t := 54) (ep := 1) rfl (by decide)
    generalize w1.alloc (.cells (ecells (Lm.new 1) (.slice none 0 0) (.slice none 0 0)) 54) = w2 at h2 ⊢
    generalize w1.heap.size = p1 at h2 ⊢
    obtain ⟨B, hB⟩ : ∃ B, B = 2 * k * (max lp.length lq.length + 1) := ⟨_, rfl⟩
    have hB7 : B ≤ 574 := by
      rw [hB]
      have h1 : 2 * k ≤ 14 := by omega
      have h2 : max lp.length lq.length + 1 ≤ 41 := by omega
      have := Nat.mul_le_mul h1 h2
      omega
    refine ⟨fun _ w4 => Rnd w' p0 p1 lp lq k B 0 (none, 0, 0, none, 0, 0, 0, 0, 0) w4, ?_, ?_⟩
    · rintro s w4 h4 _
      refine max_run ?_
      refine ⟨_, rfl, ?_⟩
      have hbe : IntKind.wrap .i64 (IntKind.wrap .i64 (2 * (k : Int)) * IntKind.wrap .i64 (((max lp.length lq.length : Nat) : Int) + 1)) = (B : Int) := by
        rw [i64w (2 * (k : Int)) (by omega) (by omega), i64w (((max lp.length lq.length : Nat) : Int) + 1) (by omega) (by omega)]
        have : (2 * (k : Int)) * (((max lp.length lq.length : Nat) : Int) + 1) = (B : Int) := by rw [hB]; push_cast; rfl
        rw [this, i64w _ (by omega) (by omega)]
      rw [hbe]
      refine ⟨fun s w => ∃ t : Nat, t ≤ B ∧ Rnd w' p0 p1 lp lq k B t s w, fun s _ => (B - s.2.2.2.2.2.2.2.2).toNat, ⟨_, ⟨rfl, rfl, rfl, rfl, rfl, trivial⟩, 0, Nat.zero_le _, h4⟩, ?_⟩
      rintro ⟨ax, nx, cx, ay, ny, cy, _, _, _⟩ w5 ⟨t, ht, la, lb, X, Fs, ms, Ls, ma, mb, lx, ly, h5, hs, hfa, hfb, hla, hlb, hgA, hgB⟩ _
      dsimp only at hs h5 ⊢
      injection hs with hs1 hs2
      injection hs2 with hs2 hs3
      subst hs1 hs2 hs3
      by_cases hlt : t < B
      · rw [if_pos (by simp; omega)]
        obtain ⟨tA, dA, wfA⟩ := h5.tick
        obtain ⟨tB, dB, wfB⟩ := h5.swap.tick
        refine Calls.then tA ?_
        rintro v w6 ⟨hc6, b1, rv1, rfl, hbs1, hbl1, hrow1⟩
        refine ⟨_, _, _, rfl, ?_⟩
        have h6 : OrdP 1 w' w6 0 1 10 11 12 13 p0 p1 lp lq (.slice none 0 0) (.slice none 0 0) (.slice ax nx cx) (.slice ay ny cy) 0 0 X Fs ms Ls ma mb [] [] lx ly := { h5 with sy := (h5.sy.quiet hc6).1 }
        refine Calls.then h6.swap.tick.1 ?_
        rintro v w7 ⟨hc7, b2, rv2, rfl, hbs2, hbl2, hrow2⟩
        refine ⟨_, _, _, rfl, ?_⟩
        have h7 : OrdP 1 w' w7 0 1 10 11 12 13 p0 p1 lp lq (.slice none 0 0) (.slice none 0 0) (.slice ax nx cx) (.slice ay ny cy) 0 0 X Fs ms Ls ma mb [] [] lx ly := { h6 with sy := (h6.sy.quiet hc7).1 }
        have hbl1' := hc7.blk hbl1 fun h => h
        have hrow1' := (h6.sy.quiet hc7).2 _ _ hrow1
        refine ⟨fun _ w_1 => w_1 = w7, ?_, ?_⟩
        · rintro s_1 w_1 rfl _
          refine Calls.then (h7.swap.one hbl1' hrow1' dA hla (by omega)) ?_
          rintro v w8 ⟨X8, Fs8, ms8, mb', la', rfl, h8, hk8, hx8, hc8, hla', hdA⟩
          refine ⟨_, rfl, ?_⟩
          have hb2 : ¬ X b2 := fun hx => by have := (h6.sy.st.xb b2 hx).2; omega
          have hmono : mb.come ≤ mb'.come := by
            rcases hdA with ⟨_, _, rfl⟩ | ⟨_, rfl⟩
            · exact Nat.le_refl _
            · rw [take_payload wfA]
              exact (h7.sb.hear h7.sa.tick (by have := h7.ql; omega) (by have := h7.pl; omega)).2
          refine Calls.then (h8.swap.one (hc8.blk hbl2 hb2) (hk8 _ _ hrow2) (dB.more hmono) hlb (by omega)) ?_
          rintro v w9 ⟨X9, Fs9, ms9, ma', lb', rfl, h9, hk9, hx9, hc9, hlb', hdB⟩
          refine ⟨_, rfl, ?_⟩
          rw [if_pos (by simp), if_neg (by simp)]
          have hmonoA : ma.come ≤ ma'.come := by
            rcases hdB with ⟨_, _, rfl⟩ | ⟨_, rfl⟩
            · exact Nat.le_refl _
            · rw [take_payload wfB]
              exact (h7.sa.hear h7.sb.tick (by have := h7.pl; omega) (by have := h7.ql; omega)).2
          have gA : Go1 k B (t + 1) lp.length mb'.come ma'.got la' lb' := by
            refine go_step hgA h7.sa.got h7.sa.r hla hlb hmono h9.sa.r ?_ ?_
            · rcases hdA with ⟨g1, g2, rfl⟩ | ⟨g2, rfl⟩
              · exact .inl ⟨g1, g2, rfl⟩
              · refine .inr ⟨g2, fun e1 e2 => ?_⟩
                rw [take_payload wfA]
                exact hear_come h7.sa h7.sb h7.pl h7.p4 e1 e2
            · rcases hdB with ⟨g1, g2, rfl⟩ | ⟨g2, rfl⟩
              · exact .inl ⟨g1, g2, rfl⟩
              · refine .inr ⟨g2, ?_⟩
                rw [take_payload wfB]
                exact hear_got h7.sa h7.sb.ep rfl
          have gB : Go1 k B (t + 1) lq.length ma'.come mb'.got lb' la' := by
            refine go_step hgB h7.sb.got h7.sb.r hlb hla hmonoA h9.sb.r ?_ ?_
            · rcases hdB with ⟨g1, g2, rfl⟩ | ⟨g2, rfl⟩
              · exact .inl ⟨g1, g2, rfl⟩
              · refine .inr ⟨g2, fun e1 e2 => ?_⟩
                rw [take_payload wfB]
                exact hear_come h7.sb h7.sa h7.ql h7.q4 e1 e2
            · rcases hdA with ⟨g1, g2, rfl⟩ | ⟨g2, rfl⟩
              · exact .inl ⟨g1, g2, rfl⟩
              · refine .inr ⟨g2, ?_⟩
                rw [take_payload wfA]
                exact hear_got h7.sb h7.sa.ep rfl
          refine Calls.then h9.swap.came ?_
          rintro v w10 ⟨ra, rn, rc, rfl, happ⟩
          refine ⟨_, _, _, rfl, happ ?_⟩
          rintro ea en ec w11 ⟨X11, Fs11, ms11, Ls11, h11⟩
          refine ⟨_, _, _, rfl, ?_⟩
          refine Calls.then h11.swap.came ?_
          rintro v w12 ⟨ra, rn, rc, rfl, happ⟩
          refine ⟨_, _, _, rfl, happ ?_⟩
          rintro fa fn fc w13 ⟨X13, Fs13, ms13, Ls13, h13⟩
          refine ⟨_, _, _, rfl, (ea, en, ec, fa, fn, fc, ((la' : Nat) : Int), ((lb' : Nat) : Int), ((t + 1 : Nat) : Int)), ⟨rfl, rfl, rfl, rfl, by rw [i64w _ (by omega) (by omega)]; rfl, trivial⟩, ⟨t + 1, by omega, la', lb', X13, Fs13, ms13, Ls13, _, _, _, _, h13, rfl, rfl, rfl, hla', hlb', gA, gB⟩, by dsimp only; omega⟩
        · by_cases hw0 : 0 < len3
          · rw [if_pos (by simp; omega)]
            have e1 : Int.tmod (t : Int) (len3 : Int) = ((t % len3 : Nat) : Int) := by rw [Int.tmod_eq_emod_of_nonneg (by omega)]; rfl
            have hm := Nat.mod_lt t hw0
            have hzg : (zs.map (Value.int .i64))[t % len3]? = some (.int .i64 zs[t % len3]) := by simp [hzl, hm]
            obtain ⟨A, rfl, hcell⟩ := hzr _ _ hzg
            rw [e1]
            refine ⟨by omega, by omega, by omega, wSome_of rfl ⟨_, by rw [Int.toNat_natCast, Nat.mul_one]; exact h7.sy.st.ch.sameOld.cell hcell, ?_⟩⟩
            exact ⟨_, ⟨rfl, trivial⟩, rfl⟩
          · rw [if_neg (by simp; omega)]
            exact ⟨_, ⟨rfl, trivial⟩, rfl⟩
      · rw [if_neg (by simp; omega)]
        have : t = B := by omega
        subst this
        obtain ⟨hcA, hgA'⟩ := go_end hgA hla hlb
        obtain ⟨hcB, hgB'⟩ := go_end hgB hlb hla
        have hex : lx = lp := by
          have := h5.sb.told
          rw [hfb, List.append_nil, hcA, List.take_length] at this
          exact this
        have hey : ly = lq := by
          have := h5.sa.told
          rw [hfa, List.append_nil, hcB, List.take_length] at this
          exact this
        have hsa : ma.sent.length = 0 := by rw [h5.sa.sent, hgA', List.length_drop]; omega
        have hsb : mb.sent.length = 0 := by rw [h5.sb.sent, hgB', List.length_drop]; omega
        refine Calls.then (h5.sy.left h5.m0) ?_
        rintro v w6 ⟨rfl, rfl⟩
        refine ⟨_, rfl, ?_⟩
        rw [if_pos (by rw [hsa]; rfl)]
        refine Calls.then (h5.sy.left h5.m1) ?_
        rintro v w7 ⟨rfl, rfl⟩
        refine ⟨_, rfl, ?_⟩
        rw [if_pos (by rw [hsb]; rfl)]
        obtain ⟨a1', c1', usx, e1, hrx, hbx⟩ := h5.swap.told
        obtain ⟨a2', c2', usy, e2, hry, hby⟩ := h5.told
        rw [e1, e2]
        have hc5 := h5.sy.st.ch
        subst hex hey
        have hall := All_ok (c := c1') (c2 := cap0) hrx hbx (hrp.chg' hc5) (hbp.chg hc5 fun k _ h => h.elim) (by omega) (by omega) (fun l hl => by have := hp4 l hl; omega) (fun l hl => by have := hp4 l hl; omega)
        refine Calls.then hall ?_
        rintro v w8 ⟨rfl, hc8⟩
        refine ⟨_, rfl, ?_⟩
        rw [if_pos (by simp)]
        have hall2 := All_ok (c := c2') (c2 := cap1) (hry.chg' hc8) (hby.chg hc8 fun k _ h => h.elim) (hrq.chg' (hc5.trans hc8)) (hbq.chg (hc5.trans hc8) fun k _ h => h.elim) (by omega) (by omega) (fun l hl => by have := hq4 l hl; omega) (fun l hl => by have := hq4 l hl; omega)
        refine Calls.then hall2 ?_
        rintro v w9 ⟨rfl, hc9⟩
        refine ⟨_, rfl, ?_⟩
        rw [if_pos (by simp)]
        exact wk ((hc5.trans hc8).trans hc9)
    · refine Calls.then (sent_ok h2 (i := 0) (t := 54) (p := p0) (m := Lm.new 1) rfl hrp hbp (fun l hl => by have := hp4 l hl; omega) (by show 0 + lp.length ≤ _; omega)) ?_
      rintro v w4 ⟨rfl, X4, ms4, h4, hi4, ho4, hk4, hg4⟩
      refine ⟨_, rfl, ?_⟩
      rw [if_pos (by simp)]
      refine Calls.then (sent_ok h4 (i := 1) (t := 54) (p := p1) (m := Lm.new 1) (by rw [ho4 1 (by decide)]; rfl) hrq hbq (fun l hl => by have := hq4 l hl; omega) (by show 0 + lq.length ≤ _; omega)) ?_
      rintro v w5 ⟨rfl, X5, ms5, h5, hi5, ho5, hk5, hg5⟩
      refine ⟨_, rfl, ?_⟩
      rw [if_neg (by simp)]
      obtain ⟨X, Fs, ms, Ls, hst⟩ := OrdP.start h5 (by rw [ho5 0 (by decide)]; exact hi4) hi5 (fun j hj => by rw [ho5 j (by omega), ho4 j (by omega), upd_other (by omega), upd_other (by omega)]) (by omega) (by omega) hp4 (by omega) hq4
      exact ⟨(), trivial, 0, 0, X, Fs, ms, Ls, eA 1 lp, eA 1 lq, [], [], hst, rfl, rfl, rfl, hk0, hk0, by rw [hB]; exact go_start (by omega) hk0, by rw [hB]; exact go_start (by omega) hk0⟩
  · refine Calls.then (small_ok hrp hbp hBp) ?_
    rintro v w1 ⟨⟨b1, rfl, hs1⟩, rfl⟩
    refine ⟨_, rfl, ?_⟩
    cases b1 with
    | false => rw [if_neg (by simp)]; exact wk (Chg.refl _ _)
    | true =>
      rw [if_pos (by simp)]
      refine Calls.then (small_ok hrq hbq hBq) ?_
      rintro v w2 ⟨⟨b2, rfl, hs2⟩, rfl⟩
      refine ⟨_, rfl, ?_⟩
      cases b2 with
      | false => rw [if_neg (by simp)]; exact wk (Chg.refl _ _)
      | true =>
        rw [if_pos (by simp)]
        by_cases h40 : lp.length ≤ 40
        · rw [if_pos (by simp; omega)]
          by_cases h41 : lq.length ≤ 40
          · rw [if_pos (by simp; omega)]
            by_cases h1000 : len3 ≤ 1000
            · rw [if_neg (by simp; omega)]
              exact ⟨(), trivial, rfl, ⟨h40, (hs1 rfl).2⟩, ⟨h41, (hs2 rfl).2⟩, h1000⟩
            · rw [if_pos (by simp; omega)]
              exact wk (Chg.refl _ _)
          · rw [if_neg (by simp; omega)]
            exact wk (Chg.refl _ _)
        · rw [if_neg (by simp; omega)]
          exact wk (Chg.refl _ _)
end Go.Proofs.Ytooebmpjmcmkoaa.B
