/-
  scan: blanks and remarks.
-/
import Derived.Test.YthifnahfcbgnoaaDoorScG
set_option maxRecDepth 100000
set_option linter.unusedVariables false
set_option linter.unusedSimpArgs false
namespace Go.Proofs.YthifnahfcbgnoaaDoor.B
open Go Go.Proofs Go.Proofs.YthifnahfcbgnoaaDoorEng Go.RowKit

/-- behind blanks and remarks -/
def sk (t : List UInt8) (rem : Bool) (k : Nat) : Nat :=
  if k < t.length then (if g t k = 10 then sk t false (k + 1) else if rem = true then sk t true (k + 1) else if g t k = 32 ∨ g t k = 9 ∨ g t k = 13 then sk t false (k + 1) else if g t k = 35 then sk t true (k + 1) else k) else k
termination_by t.length - k
theorem sk_end {t : List UInt8} {rem : Bool} {k : Nat} (h : ¬ k < t.length) : sk t rem k = k := by rw [sk, if_neg h]
theorem sk_nl {t : List UInt8} {rem : Bool} {k : Nat} (h : k < t.length) (hc : g t k = 10) : sk t rem k = sk t false (k + 1) := by rw [sk, if_pos h, if_pos hc]
theorem sk_rem {t : List UInt8} {k : Nat} (h : k < t.length) (hc : g t k ≠ 10) : sk t true k = sk t true (k + 1) := by rw [sk, if_pos h, if_neg hc, if_pos rfl]
theorem sk_blank {t : List UInt8} {k : Nat} (h : k < t.length) (hc : g t k = 32 ∨ g t k = 9 ∨ g t k = 13) : sk t false k = sk t false (k + 1) := by
  rw [sk, if_pos h, if_neg (by omega), if_neg (by decide), if_pos hc]
theorem sk_hash {t : List UInt8} {k : Nat} (h : k < t.length) (hc : g t k = 35) : sk t false k = sk t true (k + 1) := by
  rw [sk, if_pos h, if_neg (by omega), if_neg (by decide), if_neg (by omega), if_pos hc]
theorem sk_stop {t : List UInt8} {k : Nat} (h : k < t.length) (h1 : g t k ≠ 10) (h2 : ¬ (g t k = 32 ∨ g t k = 9 ∨ g t k = 13)) (h3 : g t k ≠ 35) : sk t false k = k := by
  rw [sk, if_pos h, if_neg h1, if_neg (by decide), if_neg h2, if_neg h3]
theorem sk_high {t : List UInt8} : ∀ (m k : Nat), (∀ j, j < m → k + j < t.length ∧ 128 ≤ g t (k + j)) → sk t true k = sk t true (k + m)
  | 0, k, _ => rfl
  | m + 1, k, h => by
    have h0 : k < t.length ∧ 128 ≤ g t k := h 0 (by omega)
    rw [sk_rem h0.1 (by have := h0.2; omega), sk_high m (k + 1) (fun j hj => by have := h (j + 1) (by omega); rw [show k + 1 + j = k + (j + 1) by omega]; exact this), show k + 1 + m = k + (m + 1) by omega]
theorem sk_le (t : List UInt8) (rem : Bool) (k : Nat) : k ≤ sk t rem k ∧ (k ≤ t.length → sk t rem k ≤ t.length) := by
  by_cases h : k < t.length
  · have i1 := sk_le t false (k + 1)
    have i2 := sk_le t true (k + 1)
    rw [sk, if_pos h]
    repeat' (first | omega | split)
  · rw [sk_end h]
    exact ⟨Nat.le_refl _, fun h => h⟩
termination_by t.length - k

/-! ### a rune -/
theorem get_g (u : List UInt8) (j : Nat) : ((bs u).get! j).toNat = g u j := by
  unfold g
  show (((bs u).data)[j]!).toNat = _
  simp [bs, List.getD_eq_getElem?_getD, getElem!_def]
  cases u[j]? <;> rfl
theorem dec_low {u : List UInt8} {p : Nat} (h : g u p < 128) : Utf8.decode (bs u) p = (g u p, 1) := by
  have h0 : ((bs u).get! (p + 0)).toNat = g u p := get_g u p
  simp only [Utf8.decode, h0, h, if_true]
theorem dec_high {u : List UInt8} {p : Nat} (hp : p < u.length) (h : 128 ≤ g u p) : 128 ≤ (Utf8.decode (bs u) p).1 ∧ 1 ≤ (Utf8.decode (bs u) p).2 ∧ ∀ j, j < (Utf8.decode (bs u) p).2 → p + j < u.length ∧ 128 ≤ g u (p + j) := by
  have h0 : ((bs u).get! (p + 0)).toNat = g u p := get_g u p
  have h1 := get_g u (p + 1)
  have h2 := get_g u (p + 2)
  have h3 := get_g u (p + 3)
  have hs := bs_size u
  have hn : ¬ g u p < 128 := by omega
  have b0 := g_lt u p
  have one : ∀ j, j < 1 → p + j < u.length ∧ 128 ≤ g u (p + j) := fun j hj => by
    have : j = 0 := by omega
    subst this
    exact ⟨hp, h⟩
  simp only [Utf8.decode, h0, h1, h2, h3, hs, hn, if_false]
  by_cases c1 : (g u p / 32 == 6 && (decide (p + 1 < u.length) && g u (p + 1) / 64 == 2)) = true
  · rw [if_pos c1]
    simp only [Bool.and_eq_true, beq_iff_eq, decide_eq_true_eq] at c1
    by_cases c2 : g u p % 32 * 64 + g u (p + 1) % 64 ≥ 128
    · rw [if_pos c2]
      refine ⟨c2, by omega, fun j hj => ?_⟩
      have : j = 0 ∨ j = 1 := by omega
      rcases this with rfl | rfl
      · exact ⟨hp, h⟩
      · exact ⟨c1.2.1, by omega⟩
    · rw [if_neg c2]
      exact ⟨by decide, by decide, one⟩
  · rw [if_neg c1]
    by_cases c1 : (g u p / 16 == 14 && (decide (p + 1 < u.length) && g u (p + 1) / 64 == 2) && (decide (p + 2 < u.length) && g u (p + 2) / 64 == 2)) = true
    · rw [if_pos c1]
      simp only [Bool.and_eq_true, beq_iff_eq, decide_eq_true_eq] at c1
      split
      · rename_i c2
        simp only [Bool.and_eq_true, decide_eq_true_eq] at c2
        refine ⟨by have := c2.1; simp only; omega, by simp only; omega, fun j hj => ?_⟩
        have : j = 0 ∨ j = 1 ∨ j = 2 := by simp only at hj; omega
        rcases this with rfl | rfl | rfl
        · exact ⟨hp, h⟩
        · exact ⟨c1.1.2.1, by omega⟩
        · exact ⟨c1.2.1, by omega⟩
      · exact ⟨by decide, by decide, one⟩
    · rw [if_neg c1]
      by_cases c1 : (g u p / 8 == 30 && (decide (p + 1 < u.length) && g u (p + 1) / 64 == 2) && (decide (p + 2 < u.length) && g u (p + 2) / 64 == 2) && (decide (p + 3 < u.length) && g u (p + 3) / 64 == 2)) = true
      · rw [if_pos c1]
        simp only [Bool.and_eq_true, beq_iff_eq, decide_eq_true_eq] at c1
        split
        · rename_i c2
          simp only [Bool.and_eq_true, decide_eq_true_eq] at c2
          refine ⟨by have := c2.1; simp only; omega, by simp only; omega, fun j hj => ?_⟩
          have : j = 0 ∨ j = 1 ∨ j = 2 ∨ j = 3 := by simp only at hj; omega
          rcases this with rfl | rfl | rfl | rfl
          · exact ⟨hp, h⟩
          · exact ⟨c1.1.1.2.1, by omega⟩
          · exact ⟨c1.1.2.1, by omega⟩
          · exact ⟨c1.2.1, by omega⟩
        · exact ⟨by decide, by decide, one⟩
      · rw [if_neg c1]
        exact ⟨by decide, by decide, one⟩
theorem next_any {w : World} {q p : Nat} {u : List UInt8} {ty : TypeId} {K : Value → World → Prop} {E : PanW} (hq : w.heap[q]? = some (.stringIter (bs u) p)) (hp : p < u.length)
    (hK : ∀ w', w'.heap[q]? = some (.stringIter (bs u) (p + (Utf8.decode (bs u) p).2)) → Chg (OnlyB q) w w' → K (.tuple #[.bool true, .int .i64 (p : Int), .int .i32 ((Utf8.decode (bs u) p).1 : Int)]) w') :
    runV Tryd.prog (Instr.next (.pointer (some ⟨q, 0, none⟩)) true ty) w K E :=
  runV_of_ok (Lib.run_next_any_at w q (bs u) p ty hq (by rw [bs_size]; exact hp)) (hK _ (Lib.iterAt_heap w q (bs u) p _ hq) ⟨rfl, rfl, rfl, by rw [Lib.iterAt_size]; exact Nat.le_refl _, fun k hk hne => Lib.iterAt_other w q k _ _ hne⟩)
theorem next_end {w : World} {q p : Nat} {u : List UInt8} {ty : TypeId} {K : Value → World → Prop} {E : PanW} (hq : w.heap[q]? = some (.stringIter (bs u) p)) (hp : ¬ p < u.length) (hK : K (.tuple #[.bool false]) w) :
    runV Tryd.prog (Instr.next (.pointer (some ⟨q, 0, none⟩)) true ty) w K E :=
  runV_of_ok (Lib.run_next_end_at w q (bs u) p ty hq (by rw [bs_size]; exact hp)) hK
theorem set_at {w0 w : World} {base r k e : Nat} {t : List UInt8} {ws : List Wd} {v : Value} {K : World → Prop} (h : RdO w base r t k ws) (hc : Chg (fun b => r ≤ b) w0 w) (hv : v = .int .i64 (e : Int)) (hK : ∀ w', RdO w' base r t e ws → Chg (fun b => r ≤ b) w0 w' → K w') : setW w (addK ⟨r, 0, none⟩ 1) v K := by
  subst hv
  obtain ⟨a, n, c, h1, h2, h3, h4, h5, h6⟩ := h
  refine set1 h1 rfl ?_
  intro w4 hb4 hc4 hs4
  refine hK w4 ⟨a, n, c, hb4, ?_, h3, h4, by omega, h6⟩ (hc.trans (hc4.mono fun b _ hb => by rw [show b = r from hb]; exact Nat.le_refl _))
  exact own_of_chg h2 hc4 fun b hb hx => by have := (own_lt' h2 hb).2; have : b = r := hx; omega
theorem RdO.chgB {w w' : World} {base r q : Nat} {t : List UInt8} {k : Nat} {ws : List Wd} (h : RdO w base r t k ws) (hc : Chg (fun b => q ≤ b) w w') (hq : w.heap.size ≤ q) : RdO w' base r t k ws := by
  refine h.chg (hc.mono fun b hb hx => ?_)
  omega
theorem skip_ok {w : World} {base r k : Nat} {t : List UInt8} {ws : List Wd} (h : RdO w base r t k ws) (hk : k ≤ t.length) (ht : t.length ≤ 65536) :
    Calls Tryd.prog 12 #[.pointer (some ⟨r, 0, none⟩)] w (endW (fun v w' => RdO w' base r t (sk t false k) ws ∧ Chg (fun b => r ≤ b) w w') (fun _ _ => False)) := by
  refine F12_calls _ ?_
  delta F12
  have h0 := h
  obtain ⟨a, n, c, h1, h2, h3, h4, h5, h6⟩ := h
  refine some_i (some_i ⟨_, h1.drew.s, _, h1.drew.at_, by omega, by rw [bs_size]; omega, ?_⟩)
  rw [Int.toNat_natCast, ext_cut, bs_size]
  have hul : (cut t k t.length).length = t.length - k := cut_length _ _ _ hk (Nat.le_refl _)
  have hug : ∀ j, j < t.length - k → g (cut t k t.length) j = g t (k + j) := fun j hj => cut_get _ _ _ _ (by omega)
  generalize cut t k t.length = u at hul hug ⊢
  have hr : (Instr.range 9 (.string (bs u))).run Tryd.prog w.drew = .ok (.pointer (some ⟨w.drew.heap.size, 0, none⟩)) (w.drew.iter (bs u) 0) := run_range_string w.drew 9 (bs u) Tryd.underlying9
  refine runV_of_ok hr ?_
  have hq0 : (w.drew.iter (bs u) 0).heap[w.heap.size]? = some (.stringIter (bs u) 0) := World.iter_heap w.drew (bs u) 0
  have hc0 : Chg (fun b => w.heap.size ≤ b) w (w.drew.iter (bs u) 0) := ((chg_drew w _).trans (chg_alloc w.drew (.stringIter (bs u) 0) _))
  have hsz : w.drew.heap.size = w.heap.size := size_drew w
  rw [hsz]
  generalize w.drew.iter (bs u) 0 = w0 at hq0 hc0 ⊢
  have hrs : ∀ w', Chg (fun b => w.heap.size ≤ b) w w' → RdO w' base r t k ws := fun w' hc => h0.chgB hc (Nat.le_refl _)
  have hrc : ∀ w', Chg (fun b => w.heap.size ≤ b) w w' → Chg (fun b => r ≤ b) w w' := fun w' hc => hc.mono fun b _ hb => by omega
  refine ⟨fun s w' => ∃ p : Nat, w'.heap[w.heap.size]? = some (.stringIter (bs u) p) ∧ p ≤ u.length ∧ sk t s (k + p) = sk t false k ∧ Chg (fun b => w.heap.size ≤ b) w w', fun s w' => u.length - w'.iterPos w.heap.size, ⟨false, ⟨rfl, trivial⟩, 0, hq0, by omega, rfl, hc0⟩, ?_⟩
  rintro s w1 ⟨p, hq1, hpl, he, hc1⟩ _
  have ip1 : w1.iterPos w.heap.size = p := by unfold World.iterPos; rw [hq1]
  by_cases hp : p < u.length
  · refine next_any hq1 hp ?_
    intro w2 hq2 hc2
    refine .inr ⟨_, _, rfl, ?_⟩
    have hc02 : Chg (fun b => w.heap.size ≤ b) w w2 := hc1.trans (hc2.mono fun b _ hb => by rw [show b = w.heap.size from hb]; exact Nat.le_refl _)
    have hgu := hug p (by omega)
    have ip2 : w2.iterPos w.heap.size = p + (Utf8.decode (bs u) p).2 := by unfold World.iterPos; rw [hq2]
    have hcode : ∀ m : Nat, m < 128 → (((Utf8.decode (bs u) p).1 : Int) == (m : Int)) = decide (g t (k + p) = m) := fun m hm => by
      rw [beq_nat]
      by_cases hlo : g u p < 128
      · rw [dec_low hlo, hgu]
      · have := (dec_high hp (by omega)).1
        rw [decide_eq_decide]
        omega
    have hstep : ∀ s' : Bool, (g u p < 128 → sk t s' (k + p + 1) = sk t s (k + p)) → (128 ≤ g u p → s = true ∧ s' = true) → ∃ s'_1 : Bool, (Value.bool s'_1 = Value.bool s' ∧ True) ∧ (∃ p : Nat, w2.heap[w.heap.size]? = some (.stringIter (bs u) p) ∧ p ≤ u.length ∧ sk t s'_1 (k + p) = sk t false k ∧ Chg (fun b => w.heap.size ≤ b) w w2) ∧ u.length - w2.iterPos w.heap.size < u.length - w1.iterPos w.heap.size := fun s' hlow hhigh => by
      refine ⟨s', ⟨rfl, trivial⟩, ⟨p + (Utf8.decode (bs u) p).2, hq2, ?_, ?_, hc02⟩, ?_⟩
      · by_cases hlo : g u p < 128
        · rw [dec_low hlo]; exact hp
        · have hd := dec_high hp (by omega)
          have := (hd.2.2 ((Utf8.decode (bs u) p).2 - 1) (by omega)).1
          omega
      · by_cases hlo : g u p < 128
        · rw [dec_low hlo, ← he, ← hlow hlo]
          rfl
        · have hd := dec_high hp (by omega)
          obtain ⟨rfl, rfl⟩ := hhigh (by omega)
          rw [← he, ← Nat.add_assoc]
          refine (sk_high _ (k + p) fun j hj => ?_).symm
          have := hd.2.2 j hj
          rw [hug (p + j) (by omega)] at this
          rw [Nat.add_assoc]
          exact ⟨by omega, this.2⟩
      · rw [ip1, ip2]
        by_cases hlo : g u p < 128
        · rw [dec_low hlo]; omega
        · have hd := dec_high hp (by omega)
          omega
    have hkp : k + p < t.length := by omega
    rw [show (((Utf8.decode (bs u) p).1 : Int) == (10 : Int)) = decide (g t (k + p) = 10) from hcode 10 (by omega), show (((Utf8.decode (bs u) p).1 : Int) == (35 : Int)) = decide (g t (k + p) = 35) from hcode 35 (by omega), show (((Utf8.decode (bs u) p).1 : Int) == (32 : Int)) = decide (g t (k + p) = 32) from hcode 32 (by omega), show (((Utf8.decode (bs u) p).1 : Int) == (9 : Int)) = decide (g t (k + p) = 9) from hcode 9 (by omega), show (((Utf8.decode (bs u) p).1 : Int) == (13 : Int)) = decide (g t (k + p) = 13) from hcode 13 (by omega)]
    by_cases h10 : g t (k + p) = 10
    · rw [if_pos (by simp [h10])]
      exact hstep false (fun _ => (sk_nl hkp h10).symm) (fun h => by omega)
    · rw [if_neg (by simp [h10])]
      refine ⟨fun s' w' => w' = w2 ∧ (s' = true ↔ (s = true ∨ g t (k + p) = 32 ∨ g t (k + p) = 9 ∨ g t (k + p) = 13)), ?_, ?_⟩
      · rintro s1 w3 ⟨rfl, hs1⟩ _
        by_cases h1' : s1 = true
        · rw [if_pos h1']
          refine hstep s (fun hlo => ?_) (fun hhi => ?_)
          · cases s with
            | true => exact (sk_rem hkp h10).symm
            | false =>
              have := hs1.1 h1'
              rcases this with h | h
              · cases h
              · exact (sk_blank hkp h).symm
          · have := hs1.1 h1'
            rcases this with h | h
            · exact ⟨h, h⟩
            · omega
        · rw [if_neg h1']
          have hno : ¬ (s = true ∨ g t (k + p) = 32 ∨ g t (k + p) = 9 ∨ g t (k + p) = 13) := fun h => h1' (hs1.2 h)
          have hsf : s = false := by cases s with
            | true => exact absurd (.inl rfl) hno
            | false => rfl
          subst hsf
          by_cases h35 : g t (k + p) = 35
          · rw [if_pos (by simp [h35])]
            exact hstep true (fun _ => (sk_hash hkp h35).symm) (fun h => by omega)
          · rw [if_neg (by simp [h35])]
            have hst := sk_stop hkp h10 (fun h => hno (.inr h)) h35
            have hr3 := hrs w3 hc02
            have hr3' := hr3
            obtain ⟨a', n', c', g1, _⟩ := hr3'
            refine some_i ⟨_, g1.at_, some_i (set_at (e := k + p) hr3 (hrc _ hc02) (by rw [i64w _ (by omega) (by omega)]; rfl) ?_)⟩
            intro w4 hr4 hc4
            rw [← he, hst]
            exact ⟨hr4, hc4⟩
      · by_cases hs : s = true
        · rw [if_pos hs]
          exact ⟨true, ⟨by rw [hs], trivial⟩, rfl, by simp [hs]⟩
        · rw [if_neg hs]
          by_cases h32 : g t (k + p) = 32
          · rw [if_pos (by simp [h32])]
            exact ⟨true, ⟨by simp [h32], trivial⟩, rfl, by simp [h32]⟩
          · rw [if_neg (by simp [h32])]
            by_cases h9 : g t (k + p) = 9
            · rw [if_pos (by simp [h9])]
              exact ⟨true, ⟨by simp [h9], trivial⟩, rfl, by simp [h9]⟩
            · rw [if_neg (by simp [h9])]
              exact ⟨_, ⟨rfl, trivial⟩, rfl, by simp [hs, h32, h9]⟩
  · refine next_end hq1 hp ?_
    refine .inl ⟨rfl, ?_⟩
    have hr1 := hrs w1 hc1
    have hr1' := hr1
    obtain ⟨a', n', c', g1, _⟩ := hr1'
    refine some_i ⟨_, g1.s, some_i (set_at (e := t.length) hr1 (hrc _ hc1) (by rw [bs_size]) ?_)⟩
    intro w4 hr4 hc4
    have : k + p = t.length := by omega
    rw [this, sk_end (Nat.lt_irrefl _)] at he
    rw [← he]
    exact ⟨hr4, hc4⟩
end Go.Proofs.YthifnahfcbgnoaaDoor.B
