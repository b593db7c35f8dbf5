/-
  header: the plain law: two headers that are not the same are not written alike.
-/
import Derived.Test.YtjbgckpalaodaaaDoorHdJ
set_option maxRecDepth 100000
set_option linter.unusedVariables false
set_option linter.unusedSimpArgs false
namespace Go.Proofs.YtjbgckpalaodaaaDoor.B
open Go Go.Proofs Go.Proofs.YtjbgckpalaodaaaDoorEng Go.RowKit

/-! ### what a join was made of -/
theorem cut_at {s : UInt8} : ∀ {y y' t t' : List UInt8}, s ∉ y → s ∉ y' → (t = [] ∨ ∃ u, t = s :: u) → (t' = [] ∨ ∃ u, t' = s :: u) → y ++ t = y' ++ t' → y = y' ∧ t = t'
  | [], [], _, _, _, _, _, _, e => ⟨rfl, by simpa using e⟩
  | a :: y, [], t, t', h1, _, _, h4, e => by
    rcases h4 with rfl | ⟨u, rfl⟩
    · simp at e
    · simp only [List.cons_append, List.nil_append, List.cons.injEq] at e
      exact absurd (by simp [e.1]) h1
  | [], b :: y', t, t', _, h2, h3, _, e => by
    rcases h3 with rfl | ⟨u, rfl⟩
    · simp at e
    · simp only [List.cons_append, List.nil_append, List.cons.injEq] at e
      exact absurd (by simp [e.1]) h2
  | a :: y, b :: y', t, t', h1, h2, h3, h4, e => by
    simp only [List.cons_append, List.cons.injEq] at e
    obtain ⟨i1, i2⟩ := cut_at (fun h => h1 (List.mem_cons_of_mem _ h)) (fun h => h2 (List.mem_cons_of_mem _ h)) h3 h4 e.2
    exact ⟨by rw [e.1, i1], i2⟩
theorem jt_cons (s : UInt8) (y : List UInt8) (r : List (List UInt8)) : Lib.joinTail [s] (y :: r) = s :: (y ++ Lib.joinTail [s] r) := by simp [Lib.joinTail]
theorem jt_head (s : UInt8) (r : List (List UInt8)) : Lib.joinTail [s] r = [] ∨ ∃ u, Lib.joinTail [s] r = s :: u := by
  cases r with
  | nil => exact .inl rfl
  | cons y r => exact .inr ⟨_, jt_cons s y r⟩
theorem jt_inj {s : UInt8} : ∀ (r r' : List (List UInt8)), (∀ l ∈ r, s ∉ l) → (∀ l ∈ r', s ∉ l) → Lib.joinTail [s] r = Lib.joinTail [s] r' → r = r'
  | [], [], _, _, _ => rfl
  | [], y :: r', _, _, e => by rw [jt_cons] at e; cases e
  | y :: r, [], _, _, e => by rw [jt_cons] at e; cases e
  | y :: r, y' :: r', h, h', e => by
    rw [jt_cons, jt_cons, List.cons.injEq] at e
    obtain ⟨e1, e2⟩ := cut_at (h y List.mem_cons_self) (h' y' List.mem_cons_self) (jt_head _ _) (jt_head _ _) e.2
    rw [e1, jt_inj r r' (fun l hl => h l (List.mem_cons_of_mem _ hl)) (fun l hl => h' l (List.mem_cons_of_mem _ hl)) e2]
theorem join_inj {s : UInt8} {r r' : List (List UInt8)} (h : ∀ l ∈ r, s ∉ l ∧ 0 < l.length) (h' : ∀ l ∈ r', s ∉ l ∧ 0 < l.length) (e : Lib.join r [s] = Lib.join r' [s]) : r = r' := by
  cases r with
  | nil =>
    cases r' with
    | nil => rfl
    | cons y r' =>
      rw [Lib.join_nil, Lib.join_cons] at e
      have := (h' y List.mem_cons_self).2
      have e2 := congrArg List.length e
      simp only [List.length_nil, List.length_append] at e2
      omega
  | cons y r =>
    cases r' with
    | nil =>
      rw [Lib.join_nil, Lib.join_cons] at e
      have := (h y List.mem_cons_self).2
      have e2 := congrArg List.length e
      simp only [List.length_nil, List.length_append] at e2
      omega
    | cons y' r' =>
      rw [Lib.join_cons, Lib.join_cons] at e
      obtain ⟨e1, e2⟩ := cut_at (h y List.mem_cons_self).1 (h' y' List.mem_cons_self).1 (jt_head _ _) (jt_head _ _) e
      rw [e1, jt_inj r r' (fun l hl => (h l (List.mem_cons_of_mem _ hl)).1) (fun l hl => (h' l (List.mem_cons_of_mem _ hl)).1) e2]
theorem mem_join {x : UInt8} {ls : List (List UInt8)} {sep : List UInt8} (h : x ∈ Lib.join ls sep) : x ∈ sep ∨ ∃ l ∈ ls, x ∈ l := by
  cases ls with
  | nil => simp [Lib.join_nil] at h
  | cons y r =>
    rw [Lib.join_cons, List.mem_append] at h
    rcases h with h | h
    · exact .inr ⟨y, List.mem_cons_self, h⟩
    · simp only [Lib.joinTail, List.mem_flatten, List.mem_map] at h
      obtain ⟨l, ⟨z, hz, rfl⟩, hx⟩ := h
      rw [List.mem_append] at hx
      rcases hx with hx | hx
      · exact .inl hx
      · exact .inr ⟨z, List.mem_cons_of_mem _ hz, hx⟩

/-! ### digits -/
theorem hexc_mem : ∀ k, k < 16 → hexc k ∈ hexTab := by decide
theorem hexs_mem {n : Nat} : ∀ {d : Nat} {x : UInt8}, x ∈ hexs n d → x ∈ hexTab
  | 0, x, h => by simp [hexs] at h
  | d + 1, x, h => by
    rw [hexs, List.mem_cons] at h
    rcases h with rfl | h
    · exact hexc_mem _ (Nat.mod_lt _ (by omega))
    · exact hexs_mem h
theorem hexc_inj : ∀ a, a < 16 → ∀ b, b < 16 → hexc a = hexc b → a = b := by decide
theorem hexs_inj {n m : Nat} : ∀ (d : Nat), hexs n d = hexs m d → n % 16 ^ d = m % 16 ^ d
  | 0, _ => by simp [Nat.mod_one]
  | d + 1, h => by
    rw [hexs, hexs, List.cons.injEq] at h
    have h1 := hexc_inj _ (Nat.mod_lt _ (by omega)) _ (Nat.mod_lt _ (by omega)) h.1
    have h2 := hexs_inj d h.2
    rw [Nat.pow_succ, Nat.mod_mul, Nat.mod_mul, h2, h1]
theorem dec_last {a b : Nat} (ha : a < 10) (hb : b < 10) (h : UInt8.ofNat (48 + a) = UInt8.ofNat (48 + b)) : a = b := by
  have := congrArg UInt8.toNat h
  simp only [UInt8.toNat_ofNat'] at this
  omega
theorem dec_inj : ∀ (n m : Nat), Lib.decDigits n = Lib.decDigits m → n = m := by
  intro n
  induction n using Nat.strongRecOn with
  | _ n ih =>
    intro m h
    by_cases hn : n < 10
    · by_cases hm : m < 10
      · rw [Lib.decDigits_one hn, Lib.decDigits_one hm, List.cons.injEq] at h
        exact dec_last hn hm h.1
      · have := congrArg List.length h
        rw [Lib.decDigits_length, Lib.decDigits_length, Lib.nDigits_small hn, Lib.nDigits_big hm] at this
        have := Lib.nDigits_pos (m / 10)
        omega
    · by_cases hm : m < 10
      · have := congrArg List.length h
        rw [Lib.decDigits_length, Lib.decDigits_length, Lib.nDigits_small hm, Lib.nDigits_big hn] at this
        have := Lib.nDigits_pos (n / 10)
        omega
      · rw [dec_big hn, dec_big hm] at h
        have h1 := List.append_inj_left' h rfl
        have h2 := List.append_inj_right' h rfl
        rw [List.cons.injEq] at h2
        have h3 := dec_last (Nat.mod_lt _ (by omega)) (Nat.mod_lt _ (by omega)) h2.1
        have h4 := ih (n / 10) (by omega) (m / 10) h1
        omega
theorem dec_mem : ∀ (n : Nat) (x : UInt8), x ∈ Lib.decDigits n → 48 ≤ x.toNat ∧ x.toNat ≤ 57 := by
  intro n
  induction n using Nat.strongRecOn with
  | _ n ih =>
    intro x h
    have one : ∀ a, a < 10 → x = UInt8.ofNat (48 + a) → 48 ≤ x.toNat ∧ x.toNat ≤ 57 := fun a ha e => by
      subst e
      simp only [UInt8.toNat_ofNat']
      omega
    by_cases hn : n < 10
    · rw [Lib.decDigits_one hn, List.mem_singleton] at h
      exact one n hn h
    · rw [dec_big hn, List.mem_append, List.mem_singleton] at h
      rcases h with h | h
      · exact ih (n / 10) (by omega) x h
      · exact one _ (Nat.mod_lt _ (by omega)) h
theorem dec_pos (n : Nat) : 0 < (Lib.decDigits n).length := by rw [Lib.decDigits_length]; exact Lib.nDigits_pos n

/-! ### numbers -/
theorem mac_inj {n m : Nat} (hn : n < 2 ^ 48) (hm : m < 2 ^ 48) (h : (List.range 6).map (macPart n) = (List.range 6).map (macPart m)) : n = m := by
  have g : ∀ i, i < 6 → n / 2 ^ (40 - 8 * i) % 256 = m / 2 ^ (40 - 8 * i) % 256 := fun i hi => by
    have := List.map_inj_left.1 h i (List.mem_range.2 hi)
    have := hexs_inj 2 this
    rw [Nat.mod_mod_of_dvd _ (by decide), Nat.mod_mod_of_dvd _ (by decide)] at this
    exact this
  have g0 := g 0 (by omega)
  have g1 := g 1 (by omega)
  have g2 := g 2 (by omega)
  have g3 := g 3 (by omega)
  have g4 := g 4 (by omega)
  have g5 := g 5 (by omega)
  simp only [Nat.reduceMul, Nat.reduceSub, Nat.reducePow, Nat.div_one] at g0 g1 g2 g3 g4 g5 hn hm
  omega
theorem ip_inj {n m : Nat} (hn : n < 2 ^ 32) (hm : m < 2 ^ 32) (h : (List.range 4).map (ipPart n) = (List.range 4).map (ipPart m)) : n = m := by
  have g : ∀ i, i < 4 → n / 2 ^ (24 - 8 * i) % 256 = m / 2 ^ (24 - 8 * i) % 256 := fun i hi => dec_inj _ _ (List.map_inj_left.1 h i (List.mem_range.2 hi))
  have g0 := g 0 (by omega)
  have g1 := g 1 (by omega)
  have g2 := g 2 (by omega)
  have g3 := g 3 (by omega)
  simp only [Nat.reduceMul, Nat.reduceSub, Nat.reducePow, Nat.div_one] at g0 g1 g2 g3 hn hm
  omega
theorem mac_ok (n : Nat) : ∀ l ∈ (List.range 6).map (macPart n), (58 : UInt8) ∉ l ∧ 0 < l.length := fun l hl => by
  obtain ⟨i, _, rfl⟩ := List.mem_map.1 hl
  exact ⟨fun h => absurd (hexs_mem h) (by decide), by rw [mac_len]; omega⟩
theorem ip_ok (n : Nat) : ∀ l ∈ (List.range 4).map (ipPart n), (46 : UInt8) ∉ l ∧ 0 < l.length := fun l hl => by
  obtain ⟨i, _, rfl⟩ := List.mem_map.1 hl
  exact ⟨fun h => by have h2 := dec_mem _ _ h; revert h2; decide, dec_pos _⟩
theorem num_inj {f n m : Nat} (hf : f < 11) (h2 : f ≠ 2) (hn : n < 2 ^ wid f) (hm : m < 2 ^ wid f) (h : numTxt f n = numTxt f m) : n = m := by
  unfold numTxt at h
  by_cases h01 : f = 0 ∨ f = 1
  · rw [if_pos h01, if_pos h01] at h
    have hw : wid f = 48 := by rcases h01 with rfl | rfl <;> rfl
    rw [hw] at hn hm
    exact mac_inj hn hm (join_inj (mac_ok n) (mac_ok m) h)
  · rw [if_neg h01, if_neg h01] at h
    by_cases h45 : f = 4 ∨ f = 5
    · rw [if_pos h45, if_pos h45] at h
      have hw : wid f = 32 := by rcases h45 with rfl | rfl <;> rfl
      rw [hw] at hn hm
      exact ip_inj hn hm (join_inj (ip_ok n) (ip_ok m) h)
    · rw [if_neg h45, if_neg h45] at h
      exact dec_inj _ _ h
theorem num_mem {f n : Nat} {x : UInt8} (h : x ∈ numTxt f n) : x ∈ hexTab ∨ x = 58 ∨ x = 46 := by
  have dig : ∀ x : UInt8, 48 ≤ x.toNat ∧ x.toNat ≤ 57 → x ∈ hexTab := by
    have : ∀ k, k < 256 → 48 ≤ k ∧ k ≤ 57 → UInt8.ofNat k ∈ hexTab := by decide
    intro x hx
    have := this x.toNat x.toNat_lt hx
    simpa using this
  unfold numTxt at h
  split at h
  · rcases mem_join h with h | ⟨l, hl, h⟩
    · exact .inr (.inl (by simpa using h))
    · obtain ⟨i, _, rfl⟩ := List.mem_map.1 hl
      exact .inl (hexs_mem h)
  · split at h
    · rcases mem_join h with h | ⟨l, hl, h⟩
      · exact .inr (.inr (by simpa using h))
      · obtain ⟨i, _, rfl⟩ := List.mem_map.1 hl
        exact .inl (dig x (dec_mem _ _ h))
    · exact .inl (dig x (dec_mem _ _ h))

/-! ### parts -/
def key (l : List UInt8) : List UInt8 := l.takeWhile (· != 61)
theorem nam_no : ∀ f, f < 11 → (61 : UInt8) ∉ nam f ∧ (32 : UInt8) ∉ nam f := by decide
theorem nam_inj : ∀ a, a < 11 → ∀ b, b < 11 → nam a = nam b → a = b := by decide
theorem key_of {n r : List UInt8} (h : (61 : UInt8) ∉ n) : key (n ++ [61] ++ r) = n := by
  unfold key
  induction n with
  | nil => simp
  | cons a n ih =>
    have ha : a ≠ 61 := fun e => h (by simp [e])
    have := ih fun hh => h (List.mem_cons_of_mem _ hh)
    simp only [List.cons_append, List.takeWhile_cons]
    rw [if_pos (by simp [ha])]
    simp only [List.append_assoc, List.cons_append, List.nil_append] at this ⊢
    rw [this]
theorem part_form (h : HN) (f : Nat) (hf : f < 11) : ∃ r, part h f = nam f ++ [61] ++ r ∧ ∀ x ∈ r, x ∈ hexTab ∨ x = 58 ∨ x = 46 ∨ x = 120 := by
  unfold part
  by_cases h2 : f = 2
  · subst h2
    rw [if_pos rfl]
    refine ⟨48 :: 120 :: hexs (h 2) 4, rfl, fun x hx => ?_⟩
    simp only [List.mem_cons] at hx
    rcases hx with rfl | rfl | hx
    · exact .inl (by decide)
    · exact .inr (.inr (.inr rfl))
    · exact .inl (hexs_mem hx)
  · rw [if_neg h2]
    refine ⟨_, rfl, fun x hx => ?_⟩
    rcases num_mem hx with h | h | h
    · exact .inl h
    · exact .inr (.inl h)
    · exact .inr (.inr (.inl h))
theorem part_key (h : HN) (f : Nat) (hf : f < 11) : key (part h f) = nam f := by
  obtain ⟨r, e, _⟩ := part_form h f hf
  rw [e]
  exact key_of (nam_no f hf).1
theorem part_blank (h : HN) (f : Nat) (hf : f < 11) : (32 : UInt8) ∉ part h f := by
  obtain ⟨r, e, hr⟩ := part_form h f hf
  rw [e]
  intro hx
  rw [List.mem_append, List.mem_append] at hx
  rcases hx with (hx | hx) | hx
  · exact (nam_no f hf).2 hx
  · revert hx; decide
  · rcases hr _ hx with h | h | h | h <;> revert h <;> decide
theorem part_inj {a b : HN} (ha : okH a) (hb : okH b) {f : Nat} (hf : f < 11) (h : part a f = part b f) : a f = b f := by
  unfold part at h
  by_cases h2 : f = 2
  · subst h2
    rw [if_pos rfl, if_pos rfl] at h
    have := hexs_inj 4 (List.append_cancel_left h)
    have h1 := ha.1 2 (by omega)
    have h3 := hb.1 2 (by omega)
    have hw : wid 2 = 16 := rfl
    rw [hw] at h1 h3
    omega
  · rw [if_neg h2, if_neg h2] at h
    exact num_inj hf h2 (ha.1 f hf) (hb.1 f hf) (List.append_cancel_left h)
theorem map_inj_on {α β : Type} {g : α → β} : ∀ {l l' : List α}, (∀ x ∈ l, ∀ y ∈ l', g x = g y → x = y) → l.map g = l'.map g → l = l'
  | [], [], _, _ => rfl
  | [], _ :: _, _, h => by simp at h
  | _ :: _, [], _, h => by simp at h
  | x :: l, y :: l', hi, h => by
    simp only [List.map_cons, List.cons.injEq] at h
    rw [hi x List.mem_cons_self y List.mem_cons_self h.1, map_inj_on (fun a ha b hb => hi a (List.mem_cons_of_mem _ ha) b (List.mem_cons_of_mem _ hb)) h.2]
theorem text_inj {a b : HN} (ha : okH a) (hb : okH b) (h : text a = text b) : ∀ f, f < 11 → a f = b f := by
  unfold text at h
  rw [if_pos ha, if_pos hb] at h
  have la : ∀ l ∈ parts a 11, (32 : UInt8) ∉ l ∧ 0 < l.length := fun l hl => by
    refine ⟨?_, (parts_mem (lt64 ha) (by omega) l hl).1⟩
    obtain ⟨f, hf, rfl⟩ := List.mem_map.1 hl
    exact part_blank a f (List.mem_range.1 (List.mem_filter.1 hf).1)
  have lb : ∀ l ∈ parts b 11, (32 : UInt8) ∉ l ∧ 0 < l.length := fun l hl => by
    refine ⟨?_, (parts_mem (lt64 hb) (by omega) l hl).1⟩
    obtain ⟨f, hf, rfl⟩ := List.mem_map.1 hl
    exact part_blank b f (List.mem_range.1 (List.mem_filter.1 hf).1)
  have hp := join_inj la lb h
  have hk := congrArg (List.map key) hp
  unfold parts at hk hp
  have keyed : ∀ h : HN, (((List.range 11).filter (has h)).map (part h)).map key = ((List.range 11).filter (has h)).map nam := fun h => by
    rw [List.map_map]
    refine List.map_congr_left fun f hf => ?_
    exact part_key h f (List.mem_range.1 (List.mem_filter.1 hf).1)
  rw [keyed, keyed] at hk
  have hf := map_inj_on (fun x hx y hy e => nam_inj x (List.mem_range.1 (List.mem_filter.1 hx).1) y (List.mem_range.1 (List.mem_filter.1 hy).1) e) hk
  intro f hlt
  by_cases hm : has a f = true
  · have hmem : f ∈ (List.range 11).filter (has a) := List.mem_filter.2 ⟨List.mem_range.2 hlt, hm⟩
    rw [← hf] at hp
    exact part_inj ha hb hlt (List.map_inj_left.1 hp f hmem)
  · have hmb : ¬ has b f = true := fun hb => hm (by
      have hmem : f ∈ (List.range 11).filter (has b) := List.mem_filter.2 ⟨List.mem_range.2 hlt, hb⟩
      rw [← hf] at hmem
      exact (List.mem_filter.1 hmem).2)
    simp only [has, decide_eq_true_eq, not_or, Decidable.not_not] at hm hmb
    rw [hm.2, hmb.2]
theorem text_some {a : HN} (ha : okH a) : text a ≠ [] := by
  unfold text
  rw [if_pos ha]
  intro e
  have hne := (join_ne (parts a 11) [32] fun l hl => (parts_mem (lt64 ha) (by omega) l hl).1).1 e
  have hmem : part a 2 ∈ parts a 11 := List.mem_map.2 ⟨2, List.mem_filter.2 ⟨by decide, by simp [has]⟩, rfl⟩
  rw [hne] at hmem
  cases hmem
end Go.Proofs.YtjbgckpalaodaaaDoor.B
