/-
  scan: the document's number.
-/
import Derived.Test.YthifnahfcbgnoaaDoorScS
set_option maxRecDepth 100000
set_option linter.unusedVariables false
set_option linter.unusedSimpArgs false
set_option maxHeartbeats 400000
namespace Go.Proofs.YthifnahfcbgnoaaDoor.B
open Go Go.Proofs Go.Proofs.YthifnahfcbgnoaaDoorEng Go.RowKit

theorem vals_pow {l : List UInt8} (hl : ∀ j, j < l.length → isHex (g l j) = true) : ∀ j, j ≤ l.length → vals 16 (l.take j) < 16 ^ j
  | 0, _ => by simp [vals]
  | j + 1, h => by
    have ih := vals_pow hl j (by omega)
    have hx := hv_lt (hl j (by omega))
    rw [vals_take (by omega), Nat.pow_succ]
    omega
theorem rnumber_ok (w : World) (t : List UInt8) (k : Nat) (hk : k < t.length) (ht : t.length ≤ 65536) (hd : pairsAt t k = none → isDig (g t k) = true) : Calls Tryd.prog 27 #[.string (bs t), .int .i64 (k : Int)] w (endW (DocR t k (numAt t k) w) (fun _ _ => False)) := by
  refine F27_calls _ _ ?_
  delta F27
  obtain ⟨h2, hc⟩ := two_new w
  have hs : w.heap.size ≤ (w.alloc W39).heap.size := by rw [size_alloc]; omega
  change Calls _ _ _ ((w.alloc W39).alloc F29o) _
  generalize (w.alloc W39).alloc F29o = w1 at h2 hc
  generalize (w.alloc W39).heap.size = q at h2 hs ⊢
  generalize hp : w.heap.size = p at h2 hs ⊢
  have hpw : w.heap.size ≤ p := by omega
  have hqw : w.heap.size ≤ q := by omega
  have clo : ∀ (w' : World), Two w' p q → Chg NoS w w' → ∀ (e m : Nat), k ≤ e → e ≤ t.length → numAt t k = closedAt t e m → Calls Tryd.prog 44 #[.string (bs t), .int .i64 (k : Int), .int .i64 (e : Int), .int .u64 (m : Int), .string (bs (cut t k e))] w' (endW (fun v w'' => v = docV t k (numAt t k) ∧ Chg NoS w w'' ∧ Two w'' p q) (fun _ _ => False)) := fun w' h hc' e m hke hel ho => by
    refine Calls.then (rclosed_ok w' t k e m hke hel) ?_
    rintro v w2 ⟨rfl, hc2⟩
    exact ⟨by rw [ho], hc'.trans hc2, h.chg hc2⟩
  refine Calls.then (rpairs_ok w1 t k (by omega) ht) ?_
  rintro v w2 ⟨rfl, rfl⟩
  have e1 : IntKind.wrap .i64 ((k : Int) + 1) = ((k + 1 : Nat) : Int) := by rw [i64w _ (by omega) (by omega)]; rfl
  have e2 : IntKind.wrap .i64 ((k : Int) + 2) = ((k + 2 : Nat) : Int) := by rw [i64w _ (by omega) (by omega)]; rfl
  have e18 : IntKind.wrap .i64 ((k : Int) + 18) = ((k + 18 : Nat) : Int) := by rw [i64w _ (by omega) (by omega)]; rfl
  cases hpr : pairsAt t k with
  | some x =>
    obtain ⟨m, e⟩ := x
    have hle := pr_le hpr (Nat.le_of_lt hk)
    refine ⟨_, rfl, _, _, rfl, _, rfl, _, _, rfl, _, rfl, _, _, rfl, _, rfl, rfl, ?_⟩
    rw [if_pos rfl]
    refine ⟨by omega, by rw [bs_size]; omega, by omega, by rw [Int.toNat_natCast]; omega, ?_⟩
    rw [Int.toNat_natCast, Int.toNat_natCast, ext_cut]
    refine Calls.then (clo w2 h2 hc e m hle.1 hle.2.1 (by unfold numAt; rw [hpr])) ?_
    rintro v w3 ⟨hv, hc3, h23⟩
    exact take2 hv (fun kd e m ho => ret2 h23 (doc_ok h23 hpw hqw hc3 ho)) (fun code e ho => ret2 h23 (doc_bad h23 hpw hqw hc3 ho))
  | none =>
    refine ⟨_, rfl, _, _, rfl, _, rfl, _, _, rfl, _, rfl, _, _, rfl, _, rfl, rfl, ?_⟩
    rw [if_neg (by decide)]
    rw [e1, e2, e18]
    refine ⟨fun s w' => w' = w2 ∧ (s = true ↔ isAt t k 48 = true ∧ isAt t (k + 1) 120 = true), ?_, by omega, by rw [bs_size]; omega, ?_⟩
    · rintro s w3 ⟨rfl, hsx⟩ _
      cases s with
      | true =>
        rw [if_pos rfl]
        obtain ⟨hz, hx⟩ := hsx.1 rfl
        have hx2 := hx
        simp [isAt] at hx2
        have hnum : numAt t k = hexNum t k := by unfold numAt; rw [hpr]; exact if_pos ⟨hz, hx⟩
        unfold hexNum at hnum
        have hsp := span_le isHex t (k + 2)
        have hcd := cut_dig isHex (t := t) (k := k + 2) (by omega)
        have hall := span_all (p := isHex) (t := t) (k := k + 2)
        have hend := span_end (p := isHex) (t := t) (k := k + 2)
        generalize span isHex t (k + 2) = e at hsp hcd hall hend hnum
        have hel := hsp.2 (by omega)
        have hle := hsp.1
        have hcl := cut_length t (k + 2) e hle hel
        have hpow := vals_pow hcd
        have bad : (e = k + 2 ∨ k + 18 < e) → numAt t k = .bad 150 e := fun h => by
          rw [hnum, if_neg]
          rintro ⟨h1, _, h3⟩
          rcases h with h | h
          · exact h1 (List.length_eq_zero_iff.1 (by omega))
          · exact h3 h
        have hfull : (cut t (k + 2) e).take (e - (k + 2)) = cut t (k + 2) e := List.take_of_length_le (by omega)
        have good : e ≠ k + 2 → ¬ k + 18 < e → numAt t k = closedAt t e (vals 16 (cut t (k + 2) e)) := fun h1 h2 => by
          rw [hnum, if_pos]
          refine ⟨fun h => ?_, ?_, h2⟩
          · rw [h] at hcl; simp at hcl; omega
          · have h3 := hpow (e - (k + 2)) (by omega)
            rw [hfull] at h3
            have : 16 ^ (e - (k + 2)) ≤ 16 ^ 16 := Nat.pow_le_pow_right (by omega) (by omega)
            omega
        refine ⟨fun s w' => ∃ j : Nat, s.2 = ((k + 2 + j : Nat) : Int) ∧ k + 2 + j ≤ e ∧ (j ≤ 16 → s.1 = ((vals 16 ((cut t (k + 2) e).take j) : Nat) : Int)) ∧ w' = w3, fun s _ => (t.length - s.2).toNat, ⟨(0, ((k + 2 : Nat) : Int)), ⟨rfl, rfl, trivial⟩, 0, rfl, by omega, fun _ => by simp [vals], rfl⟩, ?_⟩
        rintro ⟨n, z⟩ w4 ⟨j, hz', hje, hn, rfl⟩ _
        dsimp only at hz' hn ⊢
        subst hz'
        rw [bs_size]
        by_cases hlt : k + 2 + j < t.length
        · rw [if_pos (by simp; omega)]
          refine ⟨by omega, by omega, ?_⟩
          rw [g_at]
          refine Calls.then (value_ok w4 (g t (k + 2 + j)) (g_lt _ _)) ?_
          rintro v w5 ⟨rfl, rfl⟩
          refine ⟨_, rfl, ?_⟩
          by_cases hxx : isHex (g t (k + 2 + j)) = true
          · rw [if_pos hxx, if_pos (by simp)]
            refine ⟨by omega, by omega, by omega, ?_⟩
            refine Calls.then (value_ok w5 (g t (k + 2 + j)) (g_lt _ _)) ?_
            rintro v w6 ⟨rfl, rfl⟩
            refine ⟨_, rfl, ?_⟩
            rw [if_pos hxx]
            have hje' : k + 2 + j < e := by
              rcases Nat.lt_or_ge (k + 2 + j) e with h | h
              · exact h
              · have : k + 2 + j = e := by omega
                rw [this] at hlt hxx
                exact absurd ⟨hlt, hxx⟩ hend
            refine ⟨(_, ((k + 2 + (j + 1) : Nat) : Int)), ⟨rfl, by rw [i64w _ (by omega) (by omega)]; rfl, trivial⟩, ⟨j + 1, rfl, by omega, fun hj => ?_, rfl⟩, by dsimp only; omega⟩
            have hn' := hn (by omega)
            subst hn'
            have hjl : j < (cut t (k + 2) e).length := by omega
            have hlt16 := hpow j (by omega)
            have hxv := hv_lt hxx
            rw [vals_take hjl, cut_get t (k + 2) e j (by omega)]
            have hp15 : 16 ^ j ≤ 16 ^ 15 := Nat.pow_le_pow_right (by omega) (by omega)
            generalize vals 16 ((cut t (k + 2) e).take j) = m at hlt16 ⊢
            generalize hv (g t (k + 2 + j)) = x at hxv ⊢
            have hm : m < 1152921504606846976 := Nat.lt_of_lt_of_le hlt16 hp15
            dsimp only
            have e3 : IntKind.wrap .u64 ((m : Int) * (2 : Int) ^ 4) = ((m * 2 ^ 4 : Nat) : Int) := by rw [wrap_u64]; omega
            have e4 : IntKind.wrap .u64 (x : Int) = (x : Int) := by rw [wrap_u64]; omega
            rw [e3, e4, or_low (k := 4) (by omega) (by omega) (by omega)]
            have e5 : IntKind.wrap .u64 ((m * 2 ^ 4 + x : Nat) : Int) = ((m * 16 + x : Nat) : Int) := by rw [wrap_u64]; omega
            exact e5
          · rw [if_neg hxx, if_neg (by decide)]
            have hje2 : k + 2 + j = e := by
              rcases Nat.lt_or_ge (k + 2 + j) e with h | h
              · have h1 := hall (k + 2 + j) (by omega) h
                first | exact absurd h1.1 hlt | exact absurd h1.2 hxx
              · omega
            subst hje2
            by_cases h0 : j = 0
            · subst h0
              rw [if_neg (by simp)]
              refine ⟨by omega, by omega, by omega, by omega, ?_⟩
              rw [Int.toNat_natCast, Int.toNat_natCast, ext_cut]
              exact ret2 (h2.chg (chg_drew _ _)) (doc_bad (h2.chg (chg_drew _ _)) hpw hqw (hc.trans (chg_drew _ _)) (bad (.inl rfl)))
            · rw [if_pos (by simp; omega)]
              by_cases h16 : 16 < j
              · rw [if_pos (by simp; omega)]
                refine ⟨by omega, by omega, by omega, by omega, ?_⟩
                rw [Int.toNat_natCast, Int.toNat_natCast, ext_cut]
                exact ret2 (h2.chg (chg_drew _ _)) (doc_bad (h2.chg (chg_drew _ _)) hpw hqw (hc.trans (chg_drew _ _)) (bad (.inr (by omega))))
              · rw [if_neg (by simp; omega)]
                have hn' := hn (by omega)
                subst hn'
                refine ⟨by omega, by omega, by omega, by omega, ?_⟩
                rw [Int.toNat_natCast, Int.toNat_natCast, ext_cut]
                refine Calls.then (clo _ h2 hc (k + 2 + j) _ (by omega) hel ?_) ?_
                · rw [good (by omega) (by omega), ← hfull, show k + 2 + j - (k + 2) = j from by omega, List.take_take, Nat.min_self]
                · rintro v w7 ⟨hv, hc3, h23⟩
                  exact take2 hv (fun kd e m ho => ret2 h23 (doc_ok h23 hpw hqw hc3 ho)) (fun code e ho => ret2 h23 (doc_bad h23 hpw hqw hc3 ho))
        · rw [if_neg (by simp; omega)]
          have hje2 : k + 2 + j = e := by
            rcases Nat.lt_or_ge (k + 2 + j) e with h | h
            · have h1 := hall (k + 2 + j) (by omega) h
              first | exact absurd h1.1 hlt | exact absurd h1.2 hxx
            · omega
          subst hje2
          by_cases h0 : j = 0
          · subst h0
            rw [if_neg (by simp)]
            refine ⟨by omega, by omega, by omega, by omega, ?_⟩
            rw [Int.toNat_natCast, Int.toNat_natCast, ext_cut]
            exact ret2 (h2.chg (chg_drew _ _)) (doc_bad (h2.chg (chg_drew _ _)) hpw hqw (hc.trans (chg_drew _ _)) (bad (.inl rfl)))
          · rw [if_pos (by simp; omega)]
            by_cases h16 : 16 < j
            · rw [if_pos (by simp; omega)]
              refine ⟨by omega, by omega, by omega, by omega, ?_⟩
              rw [Int.toNat_natCast, Int.toNat_natCast, ext_cut]
              exact ret2 (h2.chg (chg_drew _ _)) (doc_bad (h2.chg (chg_drew _ _)) hpw hqw (hc.trans (chg_drew _ _)) (bad (.inr (by omega))))
            · rw [if_neg (by simp; omega)]
              have hn' := hn (by omega)
              subst hn'
              refine ⟨by omega, by omega, by omega, by omega, ?_⟩
              rw [Int.toNat_natCast, Int.toNat_natCast, ext_cut]
              refine Calls.then (clo _ h2 hc (k + 2 + j) _ (by omega) hel ?_) ?_
              · rw [good (by omega) (by omega), ← hfull, show k + 2 + j - (k + 2) = j from by omega, List.take_take, Nat.min_self]
              · rintro v w7 ⟨hv, hc3, h23⟩
                exact take2 hv (fun kd e m ho => ret2 h23 (doc_ok h23 hpw hqw hc3 ho)) (fun code e ho => ret2 h23 (doc_bad h23 hpw hqw hc3 ho))
      | false =>
        rw [if_neg (by decide)]
        have hno : ¬ (isAt t k 48 = true ∧ isAt t (k + 1) 120 = true) := fun h => by have := hsx.2 h; cases this
        have hnum : numAt t k = if isAt t (span isDig t k) 46 = true then dots t 0 k 0 else decNum t k := by unfold numAt; rw [hpr]; exact if_neg hno
        unfold decNum at hnum
        refine Calls.then (run_ok w3 t k (by omega) ht) ?_
        rintro v w4 ⟨rfl, rfl⟩
        have hsp := span_le isDig t k
        have hke : k + 1 ≤ span isDig t k := by rw [span_go hk (hd hpr)]; exact (span_le isDig t (k + 1)).1
        have hcd := cut_dig isDig (t := t) (k := k) (by omega)
        generalize span isDig t k = e at hsp hcd hnum hke
        have hel := hsp.2 (by omega)
        have hle := hsp.1
        have hcl := cut_length t k e hle hel
        have ee : IntKind.wrap .i64 ((k : Int) + ((cut t k e).length : Int)) = (e : Int) := by rw [hcl, i64w _ (by omega) (by omega)]; omega
        refine ⟨_, rfl, ?_⟩
        rw [bs_size, bs_size, ee]
        refine ⟨fun _ w' => w' = w4 ∧ ¬ isAt t e 46 = true, ?_, ?_⟩
        · rintro _ w5 ⟨rfl, hdot⟩ _
          rw [if_neg hdot] at hnum
          refine Calls.then (decimal_ok w5 (cut t k e) hcd (by omega)) ?_
          rintro v w6 ⟨rfl, rfl⟩
          by_cases hv : vals 10 (cut t k e) ≤ 18446744073709551615
          · rw [if_pos hv]
            refine ⟨_, rfl, _, _, rfl, _, rfl, _, _, rfl, _, rfl, rfl, ?_⟩
            rw [if_neg (by decide)]
            have hne : cut t k e ≠ [] := fun h => by rw [h] at hcl; simp at hcl; omega
            rw [if_pos ⟨hne, hv⟩] at hnum
            have close : numAt t k = closedAt t e (vals 10 (cut t k e)) → Calls Tryd.prog 44 #[.string (bs t), .int .i64 (k : Int), .int .i64 (e : Int), .int .u64 ((vals 10 (cut t k e) : Nat) : Int), .string (bs (cut t k e))] w6 (endW (fun v w'' => v = docV t k (numAt t k) ∧ Chg NoS w w'' ∧ Two w'' p q) (fun _ _ => False)) := fun ho => clo w6 h2 hc e _ hle hel ho
            by_cases hl1 : k + 1 < e
            · rw [if_pos (by simp; omega)]
              refine ⟨by omega, by omega, ?_⟩
              have h0 : byteAt (bs (cut t k e)) 0 = (g (cut t k e) 0 : Int) := g_at _ 0
              have hg0 : g (cut t k e) 0 = g t k := cut_get t k e 0 (by omega)
              rw [h0, hg0]
              by_cases hz : g t k = 48
              · rw [if_pos (by simp [hz])]
                have ho : numAt t k = .bad 150 e := by rw [hnum, if_pos ⟨hl1, by simp [isAt, hk, hz]⟩]
                first
                  | exact ret2 h2 (doc_bad h2 hpw hqw hc ho)
                  | exact ret2 (h2.chg (chg_drew _ _)) (doc_bad (h2.chg (chg_drew _ _)) hpw hqw (hc.trans (chg_drew _ _)) ho)
              · rw [if_neg (by simp; omega)]
                refine Calls.then (close (by rw [hnum, if_neg fun hh => by have := hh.2; simp [isAt] at this; exact hz this.2])) ?_
                rintro v w7 ⟨hv', hc3, h23⟩
                exact take2 hv' (fun kd e m ho => ret2 h23 (doc_ok h23 hpw hqw hc3 ho)) (fun code e ho => ret2 h23 (doc_bad h23 hpw hqw hc3 ho))
            · rw [if_neg (by simp; omega)]
              refine Calls.then (close (by rw [hnum, if_neg fun hh => hl1 hh.1])) ?_
              rintro v w7 ⟨hv', hc3, h23⟩
              exact take2 hv' (fun kd e m ho => ret2 h23 (doc_ok h23 hpw hqw hc3 ho)) (fun code e ho => ret2 h23 (doc_bad h23 hpw hqw hc3 ho))
          · rw [if_neg hv]
            refine ⟨_, rfl, _, _, rfl, _, rfl, _, _, rfl, _, rfl, rfl, ?_⟩
            rw [if_pos (by decide)]
            exact ret2 h2 (doc_bad h2 hpw hqw hc (by rw [hnum, if_neg fun h => hv h.2]))
        · by_cases hl : e < t.length
          · rw [if_pos (by simp; omega)]
            refine ⟨by omega, by omega, ?_⟩
            rw [g_at]
            by_cases hx : g t e = 46
            · rw [if_pos (by simp [hx])]
              have hdot : isAt t e 46 = true := by simp [isAt, hl, hx]
              rw [if_pos hdot] at hnum
              refine Calls.then (rdotted_ok w4 t k (by omega) ht) ?_
              rintro v w5 ⟨hv, hc5⟩
              have h25 := h2.chg hc5
              have hc15 := hc.trans hc5
              exact take2 hv (fun kd e m ho => ret2 h25 (doc_ok h25 hpw hqw hc15 (hnum.trans ho))) (fun code e ho => ret2 h25 (doc_bad h25 hpw hqw hc15 (hnum.trans ho)))
            · rw [if_neg (by simp; omega)]
              exact ⟨(), trivial, rfl, by simp [isAt, hx]⟩
          · rw [if_neg (by simp; omega)]
            exact ⟨(), trivial, rfl, by simp [isAt, hl]⟩
    · rw [bs_size, g_at]
      by_cases hz : g t k = 48
      · rw [if_pos (by simp [hz])]
        by_cases hl : k + 1 < t.length
        · rw [if_pos (by simp; omega)]
          refine ⟨by omega, by omega, _, ⟨rfl, trivial⟩, rfl, ?_⟩
          rw [g_at]
          simp [isAt, hk, hl, hz]
          omega
        · rw [if_neg (by simp; omega)]
          exact ⟨false, ⟨rfl, trivial⟩, rfl, by simp [isAt, hl]⟩
      · rw [if_neg (by simp; omega)]
        exact ⟨false, ⟨rfl, trivial⟩, rfl, by simp [isAt, hz]⟩
end Go.Proofs.YthifnahfcbgnoaaDoor.B
