/-
  Policies: a term is written over.
-/
import Derived.Test.YtbpckcmejkcciaaPolZc
set_option maxRecDepth 100000
set_option linter.unusedVariables false
set_option linter.unusedSimpArgs false
namespace Go.Proofs.Ytbpckcmejkcciaa.B
open Go Go.Proofs Go.Proofs.YtbpckcmejkcciaaEng

/-- the i-th term of the row in block b is written over -/
structure Wr (w w' : World) (b i : Nat) : Prop where
  whole : ∀ A, Whole w A → Whole w' A
  keep : ∀ A (j k : Nat) v, Whole w A → k < 4 → ¬ (A.block = b ∧ j = i) → w.cell? (addK (addK A (j * 4)) k) = some v → w'.cell? (addK (addK A (j * 4)) k) = some v
  new : ∀ A, Whole w A → A.block = b → w'.cell? (addK (addK A (i * 4)) 0) = some (.int .i8 77) ∧ w'.cell? (addK (addK A (i * 4)) 1) = some (.int .i8 0) ∧ w'.cell? (addK (addK A (i * 4)) 2) = some (.int .u64 0) ∧ w'.cell? (addK (addK A (i * 4)) 3) = some (.slice none 0 0)
def ruinS : Tm := .mk 77 0 0 []
theorem ruin_own (w : World) (S : Nat → Prop) : TO w S ruinS 77 0 0 none 0 0 := by
  unfold ruinS
  simp only [TO, KO]
  exact ⟨trivial, trivial, trivial, rfl, Nat.le_refl _, by omega, by omega, trivial⟩
theorem tdepth_pos : ∀ t : Tm, 1 ≤ tdepth t
  | .mk _ _ _ ks => by simp [tdepth]
mutual
theorem TO.wr {w w' : World} {b i : Nat} {S : Nat → Prop} (hw : Wr w w' b i) : ∀ {t : Tm} {op f n : Int} {a : Option Addr} {len c : Nat}, TO w S t op f n a len c → ∃ t', tdepth t' ≤ tdepth t ∧ TO w' S t' op f n a len c
  | .mk o f' n' ks, op, f, n, a, len, c, h => by
    simp only [TO] at h
    obtain ⟨ks', h1, h2, h3⟩ := KO.wr hw h.2.2.2.2.2.2.2
    refine ⟨.mk o f' n' ks', by simp only [tdepth]; omega, ?_⟩
    simp only [TO]
    exact ⟨h.1, h.2.1, h.2.2.1, h.2.2.2.1.trans h1.symm, h.2.2.2.2.1, h.2.2.2.2.2.1, h.2.2.2.2.2.2.1, h3⟩
theorem KO.wr {w w' : World} {b i : Nat} {S : Nat → Prop} (hw : Wr w w' b i) : ∀ {ks : List Tm} {a : Option Addr} {j : Nat}, KO w S ks a j → ∃ ks', ks'.length = ks.length ∧ ldepth ks' ≤ ldepth ks ∧ KO w' S ks' a j
  | [], _, _, _ => ⟨[], rfl, Nat.le_refl _, by simp only [KO]⟩
  | k :: ks, a, j, h => by
    simp only [KO] at h
    obtain ⟨⟨A, op, f, n, b', m, c, h1, h0, h2, h3, h4, h5, h6⟩, h7⟩ := h
    obtain ⟨ks', g1, g2, g3⟩ := KO.wr hw h7
    by_cases hA : A.block = b ∧ j = i
    · obtain ⟨hA, rfl⟩ := hA
      obtain ⟨n0, n1, n2, n3⟩ := hw.new A h0.2 hA
      refine ⟨ruinS :: ks', by simp [g1], ?_, ?_⟩
      · have := tdepth_pos k
        simp only [ldepth, tdepth, ruinS]
        omega
      · simp only [KO]
        exact ⟨⟨A, 77, 0, 0, none, 0, 0, h1, ⟨h0.1, hw.whole A h0.2⟩, n0, n1, n2, n3, ruin_own _ _⟩, g3⟩
    · obtain ⟨k', e1, e2⟩ := TO.wr hw h6
      refine ⟨k' :: ks', by simp [g1], by simp only [ldepth]; omega, ?_⟩
      simp only [KO]
      exact ⟨⟨A, op, f, n, b', m, c, h1, ⟨h0.1, hw.whole A h0.2⟩, hw.keep A j 0 _ h0.2 (by omega) hA h2, hw.keep A j 1 _ h0.2 (by omega) hA h3, hw.keep A j 2 _ h0.2 (by omega) hA h4, hw.keep A j 3 _ h0.2 (by omega) hA h5, e2⟩, g3⟩
end
/-- terms are terms still -/
def Still (S : Nat → Prop) (w w' : World) : Prop := ∀ (t : Tm) (u : V4), u.own w S t → ∃ t', tdepth t' ≤ tdepth t ∧ u.own w' S t'
theorem Still.refl (S : Nat → Prop) (w : World) : Still S w w := fun t u h => ⟨t, Nat.le_refl _, h⟩
theorem Still.trans {S : Nat → Prop} {a b c : World} (h : Still S a b) (k : Still S b c) : Still S a c := fun t u hu => by
  obtain ⟨t', h1, h2⟩ := h t u hu
  obtain ⟨t'', h3, h4⟩ := k t' u h2
  exact ⟨t'', by omega, h4⟩
theorem still_chg {S S' : Nat → Prop} {w w' : World} (hc : Chg S' w w') (hs : ∀ b, S b → ¬ S' b) : Still S w w' := fun t u h => ⟨t, Nat.le_refl _, h.keep hc hs fun _ x => x⟩
theorem KO.get {w : World} {S : Nat → Prop} : ∀ {ks : List Tm} {a : Option Addr} {i : Nat}, KO w S ks a i → ∀ (j : Nat) (k : Tm), ks[j]? = some k → ∃ A, ∃ v : V4, a = some A ∧ S A.block ∧ Whole w A ∧ w.cell? (addK (addK A ((i + j) * 4)) 0) = some (.int .i8 v.op) ∧ w.cell? (addK (addK A ((i + j) * 4)) 1) = some (.int .i8 v.f) ∧ w.cell? (addK (addK A ((i + j) * 4)) 2) = some (.int .u64 v.n) ∧ w.cell? (addK (addK A ((i + j) * 4)) 3) = some (.slice v.b v.m v.c) ∧ v.own w S k
  | [], _, _, _, j, k, h => by simp at h
  | k :: ks, a, i, h, 0, k', hk => by
    simp only [List.getElem?_cons_zero, Option.some.injEq] at hk
    subst hk
    simp only [KO] at h
    obtain ⟨⟨A, op, f, n, b', m, c, h1, h0, h2, h3, h4, h5, h6⟩, h7⟩ := h
    exact ⟨A, ⟨op, f, n, b', m, c⟩, h1, h0.1, h0.2, h2, h3, h4, h5, h6⟩
  | k :: ks, a, i, h, j + 1, k', hk => by
    simp only [List.getElem?_cons_succ] at hk
    simp only [KO] at h
    obtain ⟨A, v, h1⟩ := KO.get h.2 j k' hk
    rw [show i + 1 + j = i + (j + 1) from by omega] at h1
    exact ⟨A, v, h1⟩
theorem V4.own.get {v : V4} {w : World} {S : Nat → Prop} {t : Tm} (h : v.own w S t) {j : Nat} (hj : j < v.m) : ∃ A, ∃ u : V4, ∃ k, v.b = some A ∧ S A.block ∧ Whole w A ∧ w.cell? (addK (addK A (j * 4)) 0) = some (.int .i8 u.op) ∧ w.cell? (addK (addK A (j * 4)) 1) = some (.int .i8 u.f) ∧ w.cell? (addK (addK A (j * 4)) 2) = some (.int .u64 u.n) ∧ w.cell? (addK (addK A (j * 4)) 3) = some (.slice u.b u.m u.c) ∧ u.own w S k ∧ tdepth k < tdepth t := by
  obtain ⟨op, f, n, ks⟩ := t
  unfold V4.own at h
  simp only [TO] at h
  have hl : v.m = ks.length := h.2.2.2.1
  have hjk : j < ks.length := by omega
  obtain ⟨A, u, h1, h2, h3, h4, h5, h6, h7, h8⟩ := KO.get h.2.2.2.2.2.2.2 j _ (List.getElem?_eq_getElem hjk)
  rw [Nat.zero_add] at h4 h5 h6 h7
  exact ⟨A, u, ks[j], h1, h2, h3, h4, h5, h6, h7, h8, by have := tdepth_le (List.getElem_mem hjk); simp only [tdepth]; omega⟩
/-- four cells are written over -/
theorem wr_set {w : World} {A : Addr} {i : Nat} {v : Value} {K : World → Prop} (hA : Whole w A) (hv : w.cell? (addK (addK A (i * 4)) 3) = some v)
    (hK : ∀ w', Wr w w' A.block i → Chg (OnlyB A.block) w w' → w'.heap.size = w.heap.size → K w') :
    setW w (addK (addK A (i * 4)) 0) (.int .i8 77) fun w1 => setW w1 (addK (addK A (i * 4)) 1) (.int .i8 0) fun w2 => setW w2 (addK (addK A (i * 4)) 2) (.int .u64 0) fun w3 => setW w3 (addK (addK A (i * 4)) 3) (.slice none 0 0) K := by
  obtain ⟨b, off, spot⟩ := A
  obtain ⟨h1, h2, cs, t, h3⟩ := hA
  dsimp only at h1 h2 h3 hK ⊢
  subst h1
  subst h2
  simp only [addK_lit, Nat.zero_add] at hv ⊢
  have hlt : i * 4 + 3 < cs.size := by
    rw [cell_blk h3] at hv
    rcases Nat.lt_or_ge (i * 4 + 3) cs.size with h | h
    · exact h
    · rw [Array.getElem?_eq_none h] at hv; cases hv
  refine setW_blk h3 (by omega) rfl fun w1 b1 c1 s1 => ?_
  refine setW_blk b1 (by simp; omega) rfl fun w2 b2 c2 s2 => ?_
  refine setW_blk b2 (by simp; omega) rfl fun w3 b3 c3 s3 => ?_
  refine setW_blk b3 (by simp; omega) rfl fun w4 b4 c4 s4 => ?_
  have hc := ((c1.trans c2).trans c3).trans c4
  refine hK w4 ⟨?_, ?_, ?_⟩ hc (by omega)
  · rintro ⟨b', o', s'⟩ ⟨g1, g2, cs', t', g3⟩
    by_cases hb : b' = b
    · subst hb
      exact ⟨g1, g2, _, _, b4⟩
    · exact ⟨g1, g2, cs', t', hc.blk g3 (fun e => hb e)⟩
  · rintro ⟨b', o', s'⟩ j k v' ⟨g1, g2, cs', t', g3⟩ hk hne hv'
    dsimp only at g1 g2 g3 hne
    subst g1
    subst g2
    by_cases hb : b' = b
    · subst hb
      have hji : j ≠ i := fun e => hne ⟨rfl, e⟩
      rw [addK_lit, addK_lit, cell_blk b4]
      rw [addK_lit, addK_lit, cell_blk h3] at hv'
      rw [Array.getElem?_setIfInBounds_ne (by omega), Array.getElem?_setIfInBounds_ne (by omega), Array.getElem?_setIfInBounds_ne (by omega), Array.getElem?_setIfInBounds_ne (by omega)]
      exact hv'
    · exact cell_keepS (S := fun _ => True) hv' hc (by rw [addK_block, addK_block]; exact fun e => hb e)
  · rintro ⟨b', o', s'⟩ ⟨g1, g2, cs', t', g3⟩ hb
    dsimp only at g1 g2 g3 hb
    subst g1
    subst g2
    subst hb
    simp only [addK_lit, cell_blk b4, Nat.zero_add]
    refine ⟨?_, ?_, ?_, ?_⟩
    · rw [Array.getElem?_setIfInBounds_ne (by omega), Array.getElem?_setIfInBounds_ne (by omega), Array.getElem?_setIfInBounds_ne (by omega), Array.getElem?_setIfInBounds_self_of_lt (by omega)]
    · rw [Array.getElem?_setIfInBounds_ne (by omega), Array.getElem?_setIfInBounds_ne (by omega), Array.getElem?_setIfInBounds_self_of_lt (by simp; omega)]
    · rw [Array.getElem?_setIfInBounds_ne (by omega), Array.getElem?_setIfInBounds_self_of_lt (by simp; omega)]
    · rw [Array.getElem?_setIfInBounds_self_of_lt (by simp; omega)]
theorem Spoil_ok {S : Nat → Prop} : ∀ (d : Nat) (t : Tm) (v : V4) (w : World), tdepth t ≤ d → v.own w S t → (∀ b, S b → b < w.heap.size) →
    Calls Try.prog 19 #[.agg v.arr] w (endW (fun r w' => r = .tuple #[] ∧ Chg S w w' ∧ Still S w w') (fun _ _ => False)) := by
  intro d
  induction d with
  | zero => intro t v w hd; have := tdepth_pos t; omega
  | succ d ih =>
    intro t v w hd hv hS
    have hvm : v.m ≤ 9223372036854775807 := by
      obtain ⟨_, _, _, h1, h2, _⟩ := TVal.parts hv.is
      omega
    refine F19_calls v.op v.f v.n v.b v.m v.c ?_
    delta F19
    have hb1 := blk_alloc w (.cells v.arr 26)
    have hc1 := chg_alloc w (.cells v.arr 26) NoS
    have z1 := size_alloc w (.cells v.arr 26)
    generalize w.alloc (.cells v.arr 26) = w1 at *
    have hSw : ¬ S w.heap.size := fun h => by have := hS _ h; omega
    refine ⟨fun s w2 => ∃ j : Nat, s = j ∧ j ≤ v.m ∧ w2.heap[w.heap.size]? = some (.cells v.arr 26 (0, 0)) ∧ w1.heap.size ≤ w2.heap.size ∧ Chg S w w2 ∧ Still S w w2, fun s _ => (v.m - s).toNat,
      ⟨0, ⟨rfl, trivial⟩, 0, rfl, by omega, hb1, Nat.le_refl _, hc1.mono fun k hk e => e.elim, still_chg hc1 fun _ _ x => x⟩, ?_⟩
    rintro s w2 ⟨j, rfl, hj, hb2, z2, hc2, hst2⟩ _
    have e3 : ∀ {w' : World}, w'.heap[w.heap.size]? = some (.cells v.arr 26 (0, 0)) → w'.cell? (addK ⟨w.heap.size, 0, none⟩ 3) = some (.slice v.b v.m v.c) := fun h => by rw [addK_lit, cell_blk h]; rfl
    refine ⟨_, _, _, e3 hb2, ?_⟩
    by_cases hlt : (j : Int) < v.m
    · rw [if_pos (by simpa using hlt)]
      obtain ⟨t2, hd2, hv2⟩ := hst2 t v hv
      obtain ⟨A, u, k, hA, hSA, hWA, q0, q1, q2, q3, hu, hdk⟩ := hv2.get (j := j) (by omega)
      refine ⟨_, _, _, e3 hb2, by omega, by omega, wSome_of hA ⟨_, q0, _, q1, _, q2, _, _, _, q3, ?_⟩⟩
      refine Calls.then (ih k u w2 (by omega) hu (fun b hb => by have := hS b hb; omega)) ?_
      rintro r w3 ⟨rfl, hc3, hst3⟩
      have hb3 := hc3.blk hb2 hSw
      have z3 := hc3.size
      obtain ⟨t3, hd3, hv3⟩ := (hst2.trans hst3) t v hv
      obtain ⟨A3, u3, k3, hA3, hSA3, hWA3, p0, p1, p2, p3, hu3, hdk3⟩ := hv3.get (j := j) (by omega)
      refine ⟨_, _, _, e3 hb3, by omega, by omega, wSome_of hA3 ?_⟩
      rw [Int.toNat_natCast]
      refine wr_set hWA3 p3 fun w4 hwr hc4 z4 => ?_
      refine ⟨(j : Int) + 1, ⟨by rw [i64w _ (by omega) (by omega)], trivial⟩, ⟨j + 1, rfl, by omega, hc4.blk hb3 (fun e => by have e' : w.heap.size = A3.block := e; rw [← e'] at hSA3; exact hSw hSA3), by omega, (hc2.trans2 hc3 fun _ _ x => x).trans2 hc4 fun k hk e => by have : k = A3.block := e; rw [this]; exact hSA3, (hst2.trans hst3).trans fun t u hu => TO.wr hwr hu⟩, by first | omega | (dsimp only; omega)⟩
    · rw [if_neg (by simpa using hlt)]
      exact ⟨rfl, hc2, hst2⟩
end Go.Proofs.Ytbpckcmejkcciaa.B
