/-
  scan: the words of a text, with blanks and remarks behind each, are the same words.
-/
import Derived.Test.YthifnahfcbgnoaaDoorScZa
set_option maxRecDepth 100000
set_option linter.unusedVariables false
set_option linter.unusedSimpArgs false
namespace Go.Proofs.YthifnahfcbgnoaaDoor.B
open Go Go.Proofs Go.Proofs.YthifnahfcbgnoaaDoorEng Go.RowKit

def blank (c : Nat) : Prop := c = 10 ∨ (c = 32 ∨ c = 9 ∨ c = 13) ∨ c = 35
theorem sk_stops (t : List UInt8) : ∀ (d : Nat) (rem : Bool) (k : Nat), t.length - k = d → sk t rem k < t.length → ¬ blank (g t (sk t rem k)) := by
  intro d
  induction d with
  | zero =>
    intro rem k hd h
    rw [sk_end (by omega)] at h
    omega
  | succ d ih =>
    intro rem k hd h
    have hk : k < t.length := by omega
    by_cases h1 : g t k = 10
    · rw [sk_nl hk h1] at h ⊢
      exact ih false (k + 1) (by omega) h
    · cases rem with
      | true =>
        rw [sk_rem hk h1] at h ⊢
        exact ih true (k + 1) (by omega) h
      | false =>
        by_cases h2 : g t k = 32 ∨ g t k = 9 ∨ g t k = 13
        · rw [sk_blank hk h2] at h ⊢
          exact ih false (k + 1) (by omega) h
        · by_cases h3 : g t k = 35
          · rw [sk_hash hk h3] at h ⊢
            exact ih true (k + 1) (by omega) h
          · rw [sk_stop hk h1 h2 h3]
            rintro (h | h | h)
            · exact h1 h
            · exact h2 h
            · exact h3 h
/-- a word that stood in some text -/
def Fine (x : Wd) : Prop := ∃ t k, k + x.txt.length ≤ t.length ∧ x.txt = cut t k (k + x.txt.length) ∧ oneAt t k = .ok x.kind (k + x.txt.length) x.num ∧ 0 < x.txt.length ∧ ¬ blank (g t k)
theorem scan_fine (t : List UInt8) (k : Nat) (ws0 ws : List Wd) (h : scan t k ws0 = .inl ws) : ∃ r, ws = ws0 ++ r ∧ ∀ x ∈ r, Fine x := by
  by_cases hlt : sk t false k < t.length
  · cases ho : oneAt t (sk t false k) with
    | bad e j => rw [scan_bad hlt ho] at h; cases h
    | ok kd j m =>
      rw [scan_go hlt ho] at h
      have hle := one_le ho hlt
      obtain ⟨r, e, hg⟩ := scan_fine t j _ ws h
      have hl : (cut t (sk t false k) j).length = j - sk t false k := cut_length _ _ _ (by omega) hle.2.2.2
      refine ⟨⟨kd, cut t (sk t false k) j, m, sk t false k⟩ :: r, by rw [e]; simp, fun x hx => ?_⟩
      rcases List.mem_cons.1 hx with rfl | hx
      · refine ⟨t, sk t false k, ?_⟩
        dsimp only
        rw [hl, show sk t false k + (j - sk t false k) = j by omega]
        exact ⟨hle.2.2.2, rfl, ho, by omega, sk_stops t _ false k rfl hlt⟩
      · exact hg x hx
  · rw [scan_end hlt] at h
    injection h with h
    exact ⟨[], by simp [h], by simp⟩
termination_by t.length - k
decreasing_by
  have := (sk_le t false k).1
  have := one_le (by assumption) (by assumption)
  omega
def sep : List UInt8 := [32, 35, 32, 120, 10, 9]
def catS : List Wd → List UInt8
  | [] => []
  | x :: r => x.txt ++ (sep ++ catS r)
theorem catS_snoc (l : List Wd) (x : Wd) : catS (l ++ [x]) = catS l ++ (x.txt ++ sep) := by
  induction l with
  | nil => simp [catS]
  | cons y r ih => simp [catS, ih]
theorem g_right (a b : List UInt8) (i : Nat) : g (a ++ b) (a.length + i) = g b i := by
  unfold g
  simp [List.getD_eq_getElem?_getD, List.getElem?_append_right]
theorem g_left {a b : List UInt8} {i : Nat} (h : i < a.length) : g (a ++ b) i = g a i := by
  unfold g
  simp [List.getD_eq_getElem?_getD, List.getElem?_append_left h]
def tri (x : Wd) : Nat × List UInt8 × Nat := (x.kind, x.txt, x.num)
theorem scan_cat : ∀ (rest : List Wd) (pre : List UInt8) (K : Nat) (acc : List Wd), (∀ x ∈ rest, Fine x) → sk (pre ++ catS rest) false K = pre.length → ∃ ks, scan (pre ++ catS rest) K acc = .inl (acc ++ ks) ∧ ks.map tri = rest.map tri := by
  intro rest
  induction rest with
  | nil =>
    intro pre K acc hf hs
    exact ⟨[], by rw [scan_end (by rw [hs]; simp [catS])]; simp, rfl⟩
  | cons x r ih =>
    intro pre K acc hf hs
    obtain ⟨t, k, h1, h2, h3, h4, h5⟩ := hf x (by simp)
    generalize hu : pre ++ catS (x :: r) = u at hs
    have hu2 : u = (pre ++ x.txt ++ sep) ++ catS r := by rw [← hu]; simp [catS]
    have hul : u.length = pre.length + (x.txt.length + (6 + (catS r).length)) := by rw [← hu]; simp [catS, sep]; omega
    have gx : ∀ i, i < x.txt.length → g u (pre.length + i) = g t (k + i) := by
      intro i hi
      rw [← hu, g_right]
      show g (x.txt ++ _) i = _
      rw [g_left hi, h2, cut_get _ _ _ _ (by omega)]
    have gs : ∀ i, i < 6 → g u (pre.length + x.txt.length + i) = g sep i := by
      intro i hi
      rw [← hu, Nat.add_assoc, g_right]
      show g (x.txt ++ _) _ = _
      rw [g_right, g_left (by exact hi)]
    have ha : Ag t k u pre.length x.txt.length := ⟨⟨h1, by omega, gx⟩, by omega, by have := gs 0 (by omega); rw [Nat.add_zero] at this; rw [this]; rfl⟩
    have ho := one_same ha h4 h3
    have hcut : cut u pre.length (pre.length + x.txt.length) = x.txt := by
      have := cut_same ha.1 _ 0 x.txt.length rfl (Nat.le_refl _)
      rw [Nat.add_zero, Nat.add_zero] at this
      rw [this]
      exact h2.symm
    rw [scan_go (by rw [hs]; omega) (by rw [hs]; exact ho), hs, hcut]
    have hsk : sk u false (pre.length + x.txt.length) = (pre ++ x.txt ++ sep).length := by
      have e : (pre ++ x.txt ++ sep).length = pre.length + x.txt.length + 6 := by simp [sep]; omega
      rw [e]
      have s0 := gs 0 (by omega)
      have s1 := gs 1 (by omega)
      have s2 := gs 2 (by omega)
      have s3 := gs 3 (by omega)
      have s4 := gs 4 (by omega)
      have s5 := gs 5 (by omega)
      rw [Nat.add_zero] at s0
      generalize hq : pre.length + x.txt.length = q at s0 s1 s2 s3 s4 s5 e hul ⊢
      rw [sk_blank (by omega) (.inl (s0.trans rfl)), sk_hash (by omega) (s1.trans rfl), sk_rem (by omega) (by rw [s2]; decide), sk_rem (by omega) (by rw [s3]; decide), sk_nl (by omega) (s4.trans rfl), sk_blank (by omega) (.inr (.inl (s5.trans rfl)))]
      cases r with
      | nil => rw [sk_end (by simp [catS] at hul; omega)]
      | cons y r' =>
        obtain ⟨t', k', j1, j2, j3, j4, j5⟩ := hf y (by simp)
        have hy : g u (q + 6) = g t' k' := by
          rw [hu2, show q + 6 = (pre ++ x.txt ++ sep).length + 0 by rw [e], g_right]
          show g (y.txt ++ _) 0 = _
          rw [g_left j4, j2, cut_get _ _ _ _ (by omega)]
          rfl
        rw [← hy] at j5
        exact sk_stop (by simp [catS, sep] at hul; omega) (fun hh => j5 (.inl hh)) (fun hh => j5 (.inr (.inl hh))) (fun hh => j5 (.inr (.inr hh)))
    subst hu2
    obtain ⟨ks, e1, e2⟩ := ih (pre ++ x.txt ++ sep) (pre.length + x.txt.length) (acc ++ [⟨x.kind, x.txt, x.num, pre.length⟩]) (fun z hz => hf z (by simp [hz])) hsk
    exact ⟨⟨x.kind, x.txt, x.num, pre.length⟩ :: ks, by rw [e1]; simp, by simp [e2]; rfl⟩
theorem allR_cat {t : List UInt8} {ws : List Wd} (h : scan t 0 [] = .inl ws) (hl : ¬ (catS ws).length > 65536) : ∃ ks, allR (catS ws) = .inl (ks ++ [⟨0, [], 0, (catS ws).length⟩]) ∧ ks.map tri = ws.map tri := by
  obtain ⟨r, e, hf⟩ := scan_fine t 0 [] ws h
  simp only [List.nil_append] at e
  subst e
  rename List Wd => r
  have h0 : sk (catS r) false 0 = 0 := by
    cases r with
    | nil => rw [sk_end (by simp [catS])]
    | cons y r' =>
      obtain ⟨t', k', j1, j2, j3, j4, j5⟩ := hf y (by simp)
      have hy : g (catS (y :: r')) 0 = g t' k' := by
        show g (y.txt ++ _) 0 = _
        rw [g_left j4, j2, cut_get _ _ _ _ (by omega)]
        rfl
      rw [← hy] at j5
      exact sk_stop (by simp [catS, sep]; omega) (fun hh => j5 (.inl hh)) (fun hh => j5 (.inr (.inl hh))) (fun hh => j5 (.inr (.inr hh)))
  obtain ⟨ks, e1, e2⟩ := scan_cat r [] 0 [] hf h0
  simp only [List.nil_append] at e1
  refine ⟨ks, ?_, e2⟩
  unfold allR
  rw [if_neg hl, e1]
end Go.Proofs.YthifnahfcbgnoaaDoor.B
