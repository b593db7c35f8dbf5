/-
  parse: blanks made longer: the plain law.
-/
import Derived.Test.YtgoanblnkdihfaaDoorPaSW
set_option maxRecDepth 100000
set_option linter.unusedVariables false
set_option linter.unusedSimpArgs false
namespace Go.Proofs.YtgoanblnkdihfaaDoor.B
open Go Go.Proofs Go.Proofs.YtgoanblnkdihfaaDoorEng Go.RowKit

theorem span_stop {t : List UInt8} {q k : Nat} {p : Nat → Bool} (hq : Stp t q) (hp : ∀ c, blankc c → p c = false) (hk : k ≤ q) : span p t k ≤ q := by
  rcases Nat.lt_or_ge q (span p t k) with h | h
  · exact absurd (span_all q hk h) (hq.not hp)
  · exact h
theorem dots_stop {t : List UInt8} {q : Nat} (hq : Stp t q) : ∀ (d i at_ m kd j n : Nat), 4 - i = d → at_ ≤ q → dots t i at_ m = .ok kd j n → j ≤ q := by
  intro d
  induction d with
  | zero =>
    intro i at_ m kd j n hd ha hp
    rw [dots, if_neg (by omega)] at hp
    have := (closed_ok hp).2.1
    omega
  | succ d ih =>
    intro i at_ m kd j n hd ha hp
    have hi : i < 4 := by omega
    by_cases hc : i = 0 ∨ isAt t at_ 46 = true
    · have hb : (if i = 0 then at_ else at_ + 1) ≤ q := by
        by_cases h0 : i = 0
        · rw [if_pos h0]; exact ha
        · rw [if_neg h0]
          have : at_ ≠ q := fun e => by
            have := hc.resolve_left h0
            rw [e, hq.is (nb 46 (by decide))] at this
            cases this
          omega
      rw [dots, if_pos hi, if_pos hc] at hp
      dsimp only at hp
      generalize (if i = 0 then at_ else at_ + 1) = b at hb hp
      split at hp
      · exact ih (i + 1) _ _ kd j n (by omega) (span_stop hq dig_blank hb) hp
      · cases hp
    · rw [dots_no hi hc] at hp
      cases hp
theorem one_stop {t : List UInt8} {q k kd j n : Nat} (hq : Stp t q) (hk : k < q) (h : oneAt t k = .ok kd j n) : j ≤ q := by
  have not1 : ∀ c, ¬ blankc c → isAt t (k + 1) c = true → k + 2 ≤ q := fun c hc hh => by
    have : k + 1 ≠ q := fun e => by
      rw [e, hq.is hc] at hh
      cases hh
    omega
  unfold oneAt at h
  split at h
  · unfold numAt at h
    cases hpr : pairsAt t k with
    | some z =>
      obtain ⟨m, e⟩ := z
      rw [hpr] at h
      have := (closed_ok h).2.1
      have := pr_stop hq 6 0 k 0 m e rfl (by omega) hpr
      omega
    | none =>
      rw [hpr] at h
      dsimp only at h
      split at h
      · rename_i hx
        have h2 := not1 120 (nb 120 (by decide)) hx.2
        unfold hexNum at h
        split at h
        · rw [(closed_ok h).2.1]
          exact span_stop hq hex_blank h2
        · cases h
      · split at h
        · exact dots_stop hq 4 0 k 0 kd j n rfl (by omega) h
        · unfold decNum at h
          split at h
          · split at h
            · cases h
            · rw [(closed_ok h).2.1]
              exact span_stop hq dig_blank (by omega)
          · cases h
  · split at h
    · split at h
      · cases h
      · injection h with _ h2 _
        rw [← h2]
        exact span_stop hq al_blank (by omega)
    · split at h
      · split at h
        · rename_i h61
          injection h with _ h2 _
          have := not1 61 (nb 61 (by decide)) h61
          omega
        · cases h
      · split at h
        · injection h with _ h2 _
          omega
        · cases h
theorem scan_skip {u : List UInt8} {k : Nat} {acc : List Wd} (h : k < u.length) (hb : blankc (g u k)) : scan u k acc = scan u (k + 1) acc := by
  rcases hb with h1 | h1 | h1 | h1
  · exact scan_sk (sk_blank h (.inl h1))
  · exact scan_sk (sk_blank h (.inr (.inl h1)))
  · exact scan_sk (sk_nl h h1)
  · exact scan_sk (sk_blank h (.inr (.inr h1)))
theorem skip_rem : ∀ (rm Z pre : List UInt8), (∀ c ∈ rm, c.toNat ≠ 10) → sk (pre ++ (rm ++ 10 :: Z)) true pre.length = sk (pre ++ (rm ++ 10 :: Z)) false (pre.length + rm.length + 1)
  | [], Z, pre, _ => by
    have h : g (pre ++ ([] ++ 10 :: Z)) pre.length = 10 := by
      have := g_right pre ([] ++ 10 :: Z) 0
      rw [Nat.add_zero] at this
      rw [this]; rfl
    rw [sk_nl (by simp) h]; rfl
  | c :: rm, Z, pre, hr => by
    have hc : g (pre ++ (c :: rm ++ 10 :: Z)) pre.length ≠ 10 := by
      have := g_right pre (c :: rm ++ 10 :: Z) 0
      rw [Nat.add_zero] at this
      rw [this]
      exact hr c (List.mem_cons_self ..)
    rw [sk_rem (by simp) hc]
    have := skip_rem rm Z (pre ++ [c]) fun x hx => hr x (List.mem_cons_of_mem _ hx)
    simp only [List.append_assoc, List.singleton_append, List.length_append, List.length_singleton] at this
    rw [show pre ++ (c :: rm ++ 10 :: Z) = pre ++ (c :: (rm ++ 10 :: Z)) from rfl, this]
    congr 1
    simp; omega
def e1 (rm : List UInt8) (c : UInt8) : List UInt8 := if c.toNat = 32 ∨ c.toNat = 10 then c :: 9 :: 32 :: 35 :: (rm ++ [10, 32]) else [c]
def ex (rm t : List UInt8) : List UInt8 := t.flatMap (e1 rm)
theorem ex_cons (rm : List UInt8) (c : UInt8) (s : List UInt8) : ex rm (c :: s) = e1 rm c ++ ex rm s := by simp [ex]
theorem ex_app (rm a b : List UInt8) : ex rm (a ++ b) = ex rm a ++ ex rm b := by simp [ex]
theorem ex_id (rm : List UInt8) : ∀ (l : List UInt8), (∀ c ∈ l, ¬ blankc c.toNat) → ex rm l = l
  | [], _ => rfl
  | c :: l, h => by
    have hc := h c (List.mem_cons_self ..)
    rw [ex_cons, ex_id rm l fun x hx => h x (List.mem_cons_of_mem _ hx)]
    unfold e1
    rw [if_neg fun hh => hc (by rcases hh with hh | hh; exact .inl hh; exact .inr (.inr (.inl hh)))]
    rfl
theorem long_skip (rm pre Z : List UInt8) (c : UInt8) (hrm : ∀ x ∈ rm, x.toNat ≠ 10) (hc : c.toNat = 32 ∨ c.toNat = 10) (acc : List Wd) : scan (pre ++ (e1 rm c ++ Z)) pre.length acc = scan ((pre ++ e1 rm c) ++ Z) (pre ++ e1 rm c).length acc := by
  have he : e1 rm c = c :: 9 :: 32 :: 35 :: (rm ++ [10, 32]) := by unfold e1; rw [if_pos hc]
  rw [he]
  have gi : ∀ i, g (pre ++ ((c :: 9 :: 32 :: 35 :: (rm ++ [10, 32])) ++ Z)) (pre.length + i) = g ((c :: 9 :: 32 :: 35 :: (rm ++ [10, 32])) ++ Z) i := fun i => g_right _ _ i
  have g0 : blankc (g (pre ++ ((c :: 9 :: 32 :: 35 :: (rm ++ [10, 32])) ++ Z)) pre.length) := by
    have := gi 0
    rw [Nat.add_zero] at this
    rw [this]
    show blankc c.toNat
    rcases hc with h | h
    · exact .inl h
    · exact .inr (.inr (.inl h))
  have hl : (pre ++ ((c :: 9 :: 32 :: 35 :: (rm ++ [10, 32])) ++ Z)).length = pre.length + 6 + rm.length + Z.length := by simp; omega
  rw [scan_skip (by omega) g0, scan_skip (by omega) (by rw [gi 1]; exact .inr (.inl rfl)), scan_skip (by omega) (by rw [gi 2]; exact .inl rfl)]
  have hsk : sk (pre ++ ((c :: 9 :: 32 :: 35 :: (rm ++ [10, 32])) ++ Z)) false (pre.length + 1 + 1 + 1) = sk (pre ++ ((c :: 9 :: 32 :: 35 :: (rm ++ [10, 32])) ++ Z)) false (pre.length + 5 + rm.length) := by
    rw [sk_hash (by omega) (by rw [gi 3]; rfl)]
    have e : pre ++ ((c :: 9 :: 32 :: 35 :: (rm ++ [10, 32])) ++ Z) = (pre ++ [c, 9, 32, 35]) ++ (rm ++ 10 :: (32 :: Z)) := by simp
    have := skip_rem rm (32 :: Z) (pre ++ [c, 9, 32, 35]) hrm
    rw [← e] at this
    simp only [List.length_append, List.length_cons, List.length_nil] at this
    rw [show pre.length + 1 + 1 + 1 + 1 = pre.length + (0 + 1 + 1 + 1 + 1) by omega, this]
    congr 1
    omega
  rw [scan_sk hsk, scan_skip (by omega) ?_]
  · rw [List.append_assoc]
    congr 1
    simp; omega
  · have e : pre ++ ((c :: 9 :: 32 :: 35 :: (rm ++ [10, 32])) ++ Z) = (pre ++ c :: 9 :: 32 :: 35 :: (rm ++ [10])) ++ (32 :: Z) := by simp
    have := g_right (pre ++ c :: 9 :: 32 :: 35 :: (rm ++ [10])) (32 :: Z) 0
    rw [← e, Nat.add_zero, show (pre ++ c :: 9 :: 32 :: 35 :: (rm ++ [10])).length = pre.length + 5 + rm.length by simp; omega] at this
    rw [this]
    exact .inl rfl
theorem split_word : ∀ s : List UInt8, ∃ W Z, s = W ++ Z ∧ (∀ x ∈ W, ¬ blankc x.toNat) ∧ (Z = [] ∨ ∃ b Z', Z = b :: Z' ∧ blankc b.toNat)
  | [] => ⟨[], [], rfl, by simp, .inl rfl⟩
  | c :: s => by
    by_cases h : blankc c.toNat
    · exact ⟨[], c :: s, rfl, by simp, .inr ⟨c, s, rfl, h⟩⟩
    · obtain ⟨W, Z, e, h1, h2⟩ := split_word s
      refine ⟨c :: W, Z, by rw [e]; rfl, fun x hx => ?_, h2⟩
      rcases List.mem_cons.1 hx with rfl | hx
      · exact h
      · exact h1 x hx
def st (x : Wd) : Nat × List UInt8 × Nat := (x.kind, x.txt, x.num)
def Sim {X : Type} (a b : List Wd ⊕ X) : Prop := (∃ r r', a = .inl r ∧ b = .inl r' ∧ r.map st = r'.map st) ∨ ∃ x x', a = .inr x ∧ b = .inr x'
theorem ag_mid (pre pre' w Z Z' : List UInt8) (hz : Z' = [] ∨ ∃ b Y, Z' = b :: Y ∧ blankc b.toNat) : Ag (pre ++ (w ++ Z)) pre.length (pre' ++ (w ++ Z')) pre'.length w.length := by
  refine ⟨⟨by simp, by simp, fun i hi => ?_⟩, ?_⟩
  · rw [g_right, g_right, g_left hi, g_left hi]
  · rcases hz with rfl | ⟨b, Y, rfl, hb⟩
    · exact .inl (by simp)
    · right
      have := g_right (pre' ++ w) (b :: Y) 0
      rw [Nat.add_zero, List.append_assoc, List.length_append] at this
      rw [this]
      exact hb
theorem blank_sim (rm : List UInt8) (hrm : ∀ c ∈ rm, c.toNat ≠ 10) : ∀ (n : Nat) (s pre pre' : List UInt8) (acc acc' : List Wd), s.length ≤ n → (∀ c ∈ s, c.toNat ≠ 35) → acc.map st = acc'.map st → Sim (scan (pre ++ s) pre.length acc) (scan (pre' ++ ex rm s) pre'.length acc') := by
  intro n
  induction n with
  | zero =>
    intro s pre pre' acc acc' hs _ ha
    obtain rfl : s = [] := List.length_eq_zero_iff.1 (by omega)
    have hx : ex rm [] = [] := rfl
    rw [hx, scan_end (by rw [sk_end (by simp)]; simp), scan_end (by rw [sk_end (by simp)]; simp)]
    exact .inl ⟨_, _, rfl, rfl, ha⟩
  | succ n ih =>
    intro s pre pre' acc acc' hs h35 ha
    cases s with
    | nil =>
      have hx : ex rm [] = [] := rfl
      rw [hx, scan_end (by rw [sk_end (by simp)]; simp), scan_end (by rw [sk_end (by simp)]; simp)]
      exact .inl ⟨_, _, rfl, rfl, ha⟩
    | cons c s =>
      have h35' : ∀ x ∈ s, x.toNat ≠ 35 := fun x hx => h35 x (List.mem_cons_of_mem _ hx)
      have hl : s.length ≤ n := by simp at hs; omega
      have g0 : ∀ (p z : List UInt8), g (p ++ c :: z) p.length = c.toNat := fun p z => by
        have := g_right p (c :: z) 0
        rwa [Nat.add_zero] at this
      by_cases hb : blankc c.toNat
      · have one : ∀ (p z : List UInt8) (l : List Wd), scan (p ++ c :: z) p.length l = scan ((p ++ [c]) ++ z) (p ++ [c]).length l := fun p z l => by
          rw [scan_skip (by simp) (by rw [g0]; exact hb)]
          simp
        rw [one, ex_cons]
        by_cases hn : c.toNat = 32 ∨ c.toNat = 10
        · rw [long_skip rm pre' (ex rm s) c hrm hn]
          exact ih s _ _ _ _ hl h35' ha
        · have he : e1 rm c = [c] := by unfold e1; rw [if_neg hn]
          rw [he, show pre' ++ ([c] ++ ex rm s) = pre' ++ c :: ex rm s from rfl, one]
          exact ih s _ _ _ _ hl h35' ha
      · obtain ⟨W, Z, rfl, hW, hZ⟩ := split_word s
        have hWc : ∀ x ∈ c :: W, ¬ blankc x.toNat := fun x hx => by
          rcases List.mem_cons.1 hx with rfl | hx
          · exact hb
          · exact hW x hx
        have hex : ex rm (c :: (W ++ Z)) = c :: W ++ ex rm Z := by
          rw [show c :: (W ++ Z) = (c :: W) ++ Z from rfl, ex_app, ex_id rm _ hWc]
        have hZ' : ex rm Z = [] ∨ ∃ b Y, ex rm Z = b :: Y ∧ blankc b.toNat := by
          rcases hZ with rfl | ⟨b, Y, rfl, hbb⟩
          · exact .inl rfl
          · right
            rw [ex_cons]
            unfold e1
            split
            · exact ⟨b, _, rfl, hbb⟩
            · exact ⟨b, _, rfl, hbb⟩
        have A1 := ag_mid pre pre' (c :: W) Z (ex rm Z) hZ'
        have A2 := ag_mid pre' pre (c :: W) (ex rm Z) Z hZ
        rw [hex, show pre ++ c :: (W ++ Z) = pre ++ (c :: W ++ Z) from rfl]
        have nbk : ∀ (p z : List UInt8), sk (p ++ (c :: W ++ z)) false p.length = p.length := fun p z => by
          have := g0 p (W ++ z)
          exact sk_stop (by simp) (by show g (p ++ c :: (W ++ z)) p.length ≠ 10; rw [this]; exact fun h => hb (.inr (.inr (.inl h)))) (by show ¬ (g (p ++ c :: (W ++ z)) p.length = 32 ∨ g (p ++ c :: (W ++ z)) p.length = 9 ∨ g (p ++ c :: (W ++ z)) p.length = 13); rw [this]; exact fun h => hb (by rcases h with h | h | h; exact .inl h; exact .inr (.inl h); exact .inr (.inr (.inr h)))) (by show g (p ++ c :: (W ++ z)) p.length ≠ 35; rw [this]; exact h35 c (List.mem_cons_self ..))
        have hlt : ∀ (p z : List UInt8), sk (p ++ (c :: W ++ z)) false p.length < (p ++ (c :: W ++ z)).length := fun p z => by rw [nbk]; simp
        cases ho : oneAt (pre ++ (c :: W ++ Z)) pre.length with
        | bad e j =>
          rw [scan_bad (hlt pre Z) (by rw [nbk]; exact ho)]
          cases ho' : oneAt (pre' ++ (c :: W ++ ex rm Z)) pre'.length with
          | bad e' j' =>
            rw [scan_bad (hlt pre' _) (by rw [nbk]; exact ho')]
            exact .inr ⟨_, _, rfl, rfl⟩
          | ok kd j' m =>
            exfalso
            have h1 := one_le ho' (by simp)
            have h2 := one_stop A1.2 (by simp) ho'
            have := one_same A2 (L := j' - pre'.length) (by omega) (by omega) (by rw [show pre'.length + (j' - pre'.length) = j' by omega]; exact ho')
            rw [ho] at this
            cases this
        | ok kd j m =>
          have h1 := one_le ho (by simp)
          have h2 := one_stop A2.2 (by simp) ho
          obtain ⟨L, rfl⟩ : ∃ L, j = pre.length + L := ⟨j - pre.length, by omega⟩
          have hL : L ≤ (c :: W).length := by omega
          have ho' := one_same A1 (L := L) (by omega) hL ho
          rw [scan_go (hlt pre Z) (by rw [nbk]; exact ho), scan_go (hlt pre' _) (by rw [nbk]; exact ho'), nbk, nbk]
          have hcut : cut (pre' ++ (c :: W ++ ex rm Z)) pre'.length (pre'.length + L) = cut (pre ++ (c :: W ++ Z)) pre.length (pre.length + L) := by
            have := cut_same A1.1 L 0 L (by omega) hL
            rwa [Nat.add_zero, Nat.add_zero] at this
          have hsp : c :: W = (c :: W).take L ++ (c :: W).drop L := (List.take_append_drop L _).symm
          have hlen : ∀ p : List UInt8, (p ++ (c :: W).take L).length = p.length + L := fun p => by rw [List.length_append, List.length_take]; omega
          have e1' : pre ++ (c :: W ++ Z) = (pre ++ (c :: W).take L) ++ ((c :: W).drop L ++ Z) := by
            rw [List.append_assoc, ← List.append_assoc ((c :: W).take L), ← hsp]
          have e2' : pre' ++ (c :: W ++ ex rm Z) = (pre' ++ (c :: W).take L) ++ ex rm ((c :: W).drop L ++ Z) := by
            rw [ex_app, ex_id rm _ fun x hx => hWc x (List.mem_of_mem_drop hx), List.append_assoc, ← List.append_assoc ((c :: W).take L), ← hsp]
          have h35'' : ∀ x ∈ (c :: W).drop L ++ Z, x.toNat ≠ 35 := fun x hx => by
            rcases List.mem_append.1 hx with hx | hx
            · have := List.mem_of_mem_drop hx
              exact h35 x (by rw [show c :: (W ++ Z) = (c :: W) ++ Z from rfl]; exact List.mem_append_left _ this)
            · exact h35 x (by rw [show c :: (W ++ Z) = (c :: W) ++ Z from rfl]; exact List.mem_append_right _ hx)
          have := ih ((c :: W).drop L ++ Z) (pre ++ (c :: W).take L) (pre' ++ (c :: W).take L) (acc ++ [⟨kd, cut (pre ++ (c :: W ++ Z)) pre.length (pre.length + L), m, pre.length⟩]) (acc' ++ [⟨kd, cut (pre' ++ (c :: W ++ ex rm Z)) pre'.length (pre'.length + L), m, pre'.length⟩]) (by rw [List.length_append, List.length_drop]; simp at hs hL ⊢; omega) h35'' (by rw [List.map_append, List.map_append, ha, hcut]; rfl)
          rw [← e1', ← e2', hlen, hlen] at this
          exact this
/-! ### words that are the same, wherever they stand -/
theorem st_at {ws ws' : List Wd} (h : ws.map st = ws'.map st) (i : Nat) : (ws[i]?).map st = (ws'[i]?).map st := by
  have := congrArg (fun l => l[i]?) h
  simpa [List.getElem?_map] using this
theorem st_some {ws ws' : List Wd} (h : ws.map st = ws'.map st) {i : Nat} {x : Wd} (hx : ws[i]? = some x) : ∃ y, ws'[i]? = some y ∧ SameW x y := by
  have := st_at h i
  rw [hx] at this
  cases hy : ws'[i]? with
  | none => rw [hy] at this; cases this
  | some y =>
    rw [hy] at this
    simp only [Option.map_some, st, Option.some.injEq, Prod.mk.injEq] at this
    exact ⟨y, rfl, this.1, this.2.1, this.2.2⟩
theorem isW_st {ws ws' : List Wd} (h : ws.map st = ws'.map st) : isW ws = isW ws' := by
  funext i k txt
  cases hx : ws[i]? with
  | none =>
    have := st_at h i
    rw [hx] at this
    cases hy : ws'[i]? with
    | none => unfold isW; rw [hx, hy]
    | some y => rw [hy] at this; cases this
  | some x =>
    obtain ⟨y, hy, h1, h2, _⟩ := st_some h hx
    rw [isW_at hx, isW_at hy, h1, h2]
theorem pairS_st {ws ws' : List Wd} (h : ws.map st = ws'.map st) (op : Nat) (sg : List UInt8) (i : Nat) : pairS ws op sg i = pairS ws' op sg i := by
  have none_of : ∀ j, ws[j]? = none → ws'[j]? = none := fun j hj => by
    have := st_at h j
    rw [hj] at this
    cases hy : ws'[j]? with
    | none => rfl
    | some y => rw [hy] at this; cases this
  unfold pairS
  rw [isW_st h]
  cases hx : ws[i]? with
  | none => rw [none_of i hx]
  | some x =>
    obtain ⟨y, hy, h1, h2, _⟩ := st_some h hx
    rw [hy]
    dsimp only
    rw [h2]
    cases keyOf y.txt with
    | none => rfl
    | some f =>
      dsimp only
      rw [h1]
      cases hx2 : ws[i + 2]? with
      | none => rw [none_of _ hx2]
      | some x2 =>
        obtain ⟨y2, hy2, k1, _, k3⟩ := st_some h hx2
        rw [hy2]
        dsimp only
        rw [k1, k3]
theorem pa_st {ws ws' : List Wd} (h : ws.map st = ws'.map st) : ∀ (f : Nat) (lv : Lv) (i : Nat), pa ws f lv i = pa ws' f lv i := by
  intro f
  induction f with
  | zero => intro lv i; rfl
  | succ f ih =>
    have e : pa ws f = pa ws' f := by funext lv i; exact ih lv i
    have ec : closeS ws = closeS ws' := by funext t j; unfold closeS; rw [isW_st h]
    intro lv i
    cases lv with
    | row k => rw [pa, pa, e]
    | rest k acc => rw [pa, pa, e, isW_st h]
    | star => rw [pa, pa, e]
    | stars t => rw [pa, pa, e, isW_st h]
    | not => rw [pa, pa, e, isW_st h, pairS_st h, ec]
    | atom => rw [pa, pa, e, isW_st h, pairS_st h, ec]
theorem Pa_st {ws ws' : List Wd} (h : ws.map st = ws'.map st) {lv : Lv} {i : Nat} {r : Pr} (hp : Pa ws lv i r) : Pa ws' lv i r := by
  obtain ⟨h0, f, hf⟩ := hp
  exact ⟨h0, f, by rw [← pa_st h]; exact hf⟩
theorem Qa_st {ws ws' : List Wd} (h : ws.map st = ws'.map st) {i : Nat} {r : Pr} (hp : Qa ws i r) : Qa ws' i r := by
  unfold Qa at hp ⊢
  cases hx : ws[i]? with
  | none => rw [hx] at hp; exact hp.elim
  | some x =>
    obtain ⟨y, hy, h1, h2, _⟩ := st_some h hx
    rw [hx] at hp
    rw [hy]
    dsimp only at hp ⊢
    have en : isName y = isName x := by unfold isName; rw [h1, h2]
    rw [en, ← isW_st h]
    split at hp
    · rename_i c1
      rw [if_pos c1]
      split at hp
      · rename_i c2
        rw [if_pos c2]
        exact Pa_st h hp
      · rename_i c2
        rw [if_neg c2]
        exact hp
    · rename_i c1
      rw [if_neg c1]
      exact hp
theorem Qs_st {ws ws' : List Wd} (h : ws.map st = ws'.map st) {i e : Nat} {l : List (List UInt8 × Tm)} {b : Bool} (hp : QsR ws i l e b) : QsR ws' i l e b := by
  induction hp with
  | stop h1 => exact .stop (by rw [← isW_st h]; exact h1)
  | bad h1 h2 => exact .bad (by rw [← isW_st h]; exact h1) (Qa_st h h2)
  | go h1 h2 h3 _ ih =>
    obtain ⟨y, hy, _, k2, _⟩ := st_some h h2
    rw [k2]
    exact .go (by rw [← isW_st h]; exact h1) hy (Qa_st h h3) ih
/-- both taken, as the same, or both refused -/
def SameO (o o' : Fo) : Prop := (∃ m q, o = .ok m q ∧ o' = .ok m q) ∨ ((∃ a b c, o = .fault a b c) ∧ ∃ a b c, o' = .fault a b c)
theorem File_st {ws ws' : List Wd} (h : ws.map st = ws'.map st) {o : Fo} (hf : FileP ws o) : ∃ o', FileP ws' o' ∧ SameO o o' := by
  rcases hf with ⟨j, x, h1, h2, rfl⟩ | ⟨t, j, l, e, b, x, h1, h2, h3, rfl⟩
  · obtain ⟨y, hy, _⟩ := st_some h h2
    exact ⟨_, .inl ⟨j, y, Pa_st h h1, hy, rfl⟩, .inr ⟨⟨_, _, _, rfl⟩, _, _, _, rfl⟩⟩
  · obtain ⟨y, hy, k1, _⟩ := st_some h h3
    refine ⟨_, .inr ⟨t, j, l, e, b, y, Pa_st h h1, Qs_st h h2, hy, rfl⟩, ?_⟩
    unfold endS
    rw [← k1]
    by_cases hb : b = true ∧ x.kind = 0
    · rw [if_pos hb, if_pos hb]
      by_cases hs : smallS (t :: l.map (·.2)) = true
      · rw [if_pos hs]; exact .inl ⟨_, _, rfl, rfl⟩
      · rw [if_neg hs]; exact .inr ⟨⟨_, _, _, rfl⟩, _, _, _, rfl⟩
    · rw [if_neg hb, if_neg hb]; exact .inr ⟨⟨_, _, _, rfl⟩, _, _, _, rfl⟩
theorem blanks_is {t rm : List UInt8} {o : Fo} (hrm : ∀ c ∈ rm, c.toNat ≠ 10) (ht : ∀ c ∈ t, c.toNat ≠ 35) (hl : t.length ≤ 65536) (hl2 : (ex rm t).length ≤ 65536) (ho : PolP t o) : ∃ o', PolP (ex rm t) o' ∧ SameO o o' := by
  have hs := blank_sim rm hrm t.length t [] [] [] [] (Nat.le_refl _) ht rfl
  simp only [List.nil_append, List.length_nil] at hs
  unfold PolP at ho ⊢
  rcases hs with ⟨r, r', h1, h2, h3⟩ | ⟨x, x', h1, h2⟩
  · rw [allR_of hl h1] at ho
    rw [allR_of hl2 h2]
    exact File_st (by rw [List.map_append, List.map_append, h3]; rfl) ho
  · have e1 : allR t = .inr x := by unfold allR; rw [if_neg (by omega), h1]
    have e2 : allR (ex rm t) = .inr x' := by unfold allR; rw [if_neg (by omega), h2]
    rw [e1] at ho
    rw [e2]
    exact ⟨_, rfl, .inr ⟨⟨_, _, _, ho⟩, _, _, _, rfl⟩⟩
end Go.Proofs.YtgoanblnkdihfaaDoor.B
