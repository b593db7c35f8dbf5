/-
  parse in plain Lean: a reader of words, by fuel.
-/
import Derived.Test.YtpolbdakhfcilaaGreatDoorPaA
import Derived.Test.YtpolbdakhfcilaaGreatDoorScAI
set_option maxRecDepth 100000
set_option linter.unusedVariables false
set_option linter.unusedSimpArgs false
namespace Go.Proofs.YtpolbdakhfcilaaGreatDoor.B
open Go Go.Proofs Go.Proofs.YtpolbdakhfcilaaGreatDoorEng Go.RowKit

def tk (x : Wd) (kind : Nat) (txt : List UInt8) : Bool := decide (x.kind = kind ∧ x.txt = txt)
def isW (ws : List Wd) (i kind : Nat) (txt : List UInt8) : Bool := match ws[i]? with
  | some x => tk x kind txt
  | none => false
/-- rows of parts with a sign between -/
inductive Rw where
  | pol
  | seq
  | pred
  | and
inductive Lv where
  | row (k : Rw)
  | rest (k : Rw) (acc : List Tm)
  | star
  | stars (t : Tm)
  | atom
  | not
def Rw.op : Rw → Nat
  | .pol => 8
  | .seq => 9
  | .pred => 5
  | .and => 4
def Rw.sign : Rw → List UInt8
  | .pol => [43]
  | .seq => [59]
  | .pred => [124]
  | .and => [38]
def Rw.part : Rw → Lv
  | .pol => .row .seq
  | .seq => .star
  | .pred => .row .and
  | .and => .not
/-- what is answered: a term and where it ends; where no word can stand; fuel was out -/
inductive Pr where
  | ok (t : Tm) (j : Nat)
  | bad (j : Nat)
  | out
def Pr.next (r : Pr) (k : Tm → Nat → Pr) : Pr := match r with
  | .ok t j => k t j
  | .bad j => .bad j
  | .out => .out
def mkRow (k : Rw) : List Tm → Tm
  | [t] => t
  | l => .mk (k.op : Int) 0 0 l
/-- the words that are no names, with the fields' numbers -/
def keyL : List (List UInt8 × Int) := [([99, 111, 117, 110, 116], -1), ([102, 105, 108, 116, 101, 114], -1), ([105, 100], -1), ([100, 114, 111, 112], -1), ([105, 102], -1), ([116, 104, 101, 110], -1), ([101, 108, 115, 101], -1), ([116, 114, 117, 101], -1), ([102, 97, 108, 115, 101], -1), ([115, 114, 99], 0), ([100, 115, 116], 1), ([107, 105, 110, 100], 2), ([118, 108, 97, 110], 3), ([102, 114, 111, 109], 4), ([116, 111], 5), ([112, 114, 111, 116, 111], 6), ([115, 112, 111, 114, 116], 7), ([100, 112, 111, 114, 116], 8), ([112, 111, 114, 116], 9), ([115, 119, 105, 116, 99, 104], 10)]
def keyIn (l : List (List UInt8 × Int)) (txt : List UInt8) : Option Int := match l with
  | [] => none
  | x :: r => if x.1 = txt then some x.2 else keyIn r txt
def keyOf (txt : List UInt8) : Option Int := keyIn keyL txt
def pairS (ws : List Wd) (op : Nat) (sign : List UInt8) (i : Nat) : Pr := match ws[i]? with
  | none => .bad i
  | some x => match keyOf x.txt with
    | none => .bad i
    | some f => if x.kind = 1 ∧ 0 ≤ f then (if isW ws (i + 1) 3 sign = true then (match ws[i + 2]? with
        | some y => if y.kind = 2 then .ok (.mk op f y.num []) (i + 3) else .bad (i + 2)
        | none => .bad (i + 2)) else .bad (i + 1)) else .bad i
/-- a bracket, behind a term -/
def closeS (ws : List Wd) (t : Tm) (j : Nat) : Pr := if isW ws j 3 [41] = true then .ok t (j + 1) else .bad j
def fil (t : Tm) : Tm := .mk 6 0 0 [t]
def pa (ws : List Wd) : Nat → Lv → Nat → Pr
  | 0, _, _ => .out
  | f + 1, .row k, i => (pa ws f k.part i).next fun t j => pa ws f (.rest k [t]) j
  | f + 1, .rest k acc, i => if isW ws i 3 k.sign = true then (pa ws f k.part (i + 1)).next fun t j => pa ws f (.rest k (acc ++ [t])) j else .ok (mkRow k acc) i
  | f + 1, .star, i => (pa ws f .atom i).next fun t j => pa ws f (.stars t) j
  | f + 1, .stars t, i => if isW ws i 3 [42] = true then pa ws f (.stars (.mk 10 0 0 [t])) (i + 1) else .ok t i
  | f + 1, .not, i =>
    if isW ws i 3 [33] = true then (pa ws f .not (i + 1)).next fun t j => .ok (.mk 3 0 0 [t]) j
    else if isW ws i 1 [116, 114, 117, 101] = true then .ok (bareS 1) (i + 1)
    else if isW ws i 1 [102, 97, 108, 115, 101] = true then .ok (bareS 0) (i + 1)
    else if isW ws i 3 [40] = true then (pa ws f (.row .pred) (i + 1)).next fun t j => closeS ws t j
    else pairS ws 2 [61] i
  | f + 1, .atom, i =>
    if isW ws i 1 [102, 105, 108, 116, 101, 114] = true then (pa ws f (.row .pred) (i + 1)).next fun t j => .ok (fil t) j
    else if isW ws i 1 [105, 100] = true then .ok (fil (bareS 1)) (i + 1)
    else if isW ws i 1 [100, 114, 111, 112] = true then .ok (fil (bareS 0)) (i + 1)
    else if isW ws i 3 [40] = true then (pa ws f (.row .pol) (i + 1)).next fun t j => closeS ws t j
    else if isW ws i 1 [105, 102] = true then (pa ws f (.row .pred) (i + 1)).next fun p j =>
      if isW ws j 1 [116, 104, 101, 110] = true then (pa ws f (.row .pol) (j + 1)).next fun a j2 =>
        if isW ws j2 1 [101, 108, 115, 101] = true then (pa ws f (.row .pol) (j2 + 1)).next fun b j3 => .ok (.mk 8 0 0 [.mk 9 0 0 [fil p, a], .mk 9 0 0 [fil (.mk 3 0 0 [p]), b]]) j3
        else .bad j2
      else .bad j
    else pairS ws 7 [58, 61] i
theorem next_out {r r' : Pr} {k k' : Tm → Nat → Pr} {s : Pr} (h : r.next k = s) (hs : s ≠ .out) (h1 : r ≠ .out → r' = r) (h2 : ∀ t j, k t j ≠ .out → k' t j = k t j) : r'.next k' = s := by
  cases r with
  | ok t j =>
    rw [h1 (by simp)]
    show k' t j = s
    rw [h2 t j (by rw [show k t j = s from h]; exact hs)]
    exact h
  | bad j => rw [h1 (by simp)]; exact h
  | out => exact absurd h.symm hs
theorem pa_succ (ws : List Wd) : ∀ (f : Nat) (lv : Lv) (i : Nat), pa ws f lv i ≠ .out → pa ws (f + 1) lv i = pa ws f lv i
  | 0, lv, i, h => absurd rfl h
  | f + 1, .row k, i, h => by
    rw [pa] at h ⊢
    conv => rhs; rw [pa]
    exact next_out rfl h (fun h1 => pa_succ ws f _ _ h1) fun t j h2 => pa_succ ws f _ _ h2
  | f + 1, .rest k acc, i, h => by
    rw [pa] at h ⊢
    conv => rhs; rw [pa]
    by_cases hs : isW ws i 3 k.sign = true
    · rw [if_pos hs] at h
      rw [if_pos hs, if_pos hs]
      exact next_out rfl h (fun h1 => pa_succ ws f _ _ h1) fun t j h2 => pa_succ ws f _ _ h2
    · rw [if_neg hs, if_neg hs]
  | f + 1, .star, i, h => by
    rw [pa] at h ⊢
    conv => rhs; rw [pa]
    exact next_out rfl h (fun h1 => pa_succ ws f _ _ h1) fun t j h2 => pa_succ ws f _ _ h2
  | f + 1, .stars t, i, h => by
    rw [pa] at h ⊢
    conv => rhs; rw [pa]
    by_cases hs : isW ws i 3 [42] = true
    · rw [if_pos hs] at h
      rw [if_pos hs, if_pos hs]
      exact pa_succ ws f _ _ h
    · rw [if_neg hs, if_neg hs]
  | f + 1, .not, i, h => by
    rw [pa] at h ⊢
    conv => rhs; rw [pa]
    by_cases h1 : isW ws i 3 [33] = true
    · rw [if_pos h1] at h
      rw [if_pos h1, if_pos h1]
      exact next_out rfl h (fun h1 => pa_succ ws f _ _ h1) fun t j h2 => rfl
    rw [if_neg h1] at h
    rw [if_neg h1, if_neg h1]
    by_cases h2 : isW ws i 1 [116, 114, 117, 101] = true
    · rw [if_pos h2, if_pos h2]
    rw [if_neg h2] at h
    rw [if_neg h2, if_neg h2]
    by_cases h3 : isW ws i 1 [102, 97, 108, 115, 101] = true
    · rw [if_pos h3, if_pos h3]
    rw [if_neg h3] at h
    rw [if_neg h3, if_neg h3]
    by_cases h4 : isW ws i 3 [40] = true
    · rw [if_pos h4] at h
      rw [if_pos h4, if_pos h4]
      exact next_out rfl h (fun h1 => pa_succ ws f _ _ h1) fun t j h2 => rfl
    rw [if_neg h4, if_neg h4]
  | f + 1, .atom, i, h => by
    rw [pa] at h ⊢
    conv => rhs; rw [pa]
    by_cases h1 : isW ws i 1 [102, 105, 108, 116, 101, 114] = true
    · rw [if_pos h1] at h
      rw [if_pos h1, if_pos h1]
      exact next_out rfl h (fun h1 => pa_succ ws f _ _ h1) fun t j h2 => rfl
    rw [if_neg h1] at h
    rw [if_neg h1, if_neg h1]
    by_cases h2 : isW ws i 1 [105, 100] = true
    · rw [if_pos h2, if_pos h2]
    rw [if_neg h2] at h
    rw [if_neg h2, if_neg h2]
    by_cases h3 : isW ws i 1 [100, 114, 111, 112] = true
    · rw [if_pos h3, if_pos h3]
    rw [if_neg h3] at h
    rw [if_neg h3, if_neg h3]
    by_cases h4 : isW ws i 3 [40] = true
    · rw [if_pos h4] at h
      rw [if_pos h4, if_pos h4]
      exact next_out rfl h (fun h1 => pa_succ ws f _ _ h1) fun t j h2 => rfl
    rw [if_neg h4] at h
    rw [if_neg h4, if_neg h4]
    by_cases h5 : isW ws i 1 [105, 102] = true
    · rw [if_pos h5] at h
      rw [if_pos h5, if_pos h5]
      refine next_out rfl h (fun h1 => pa_succ ws f _ _ h1) fun p j h2 => ?_
      by_cases h6 : isW ws j 1 [116, 104, 101, 110] = true
      · rw [if_pos h6] at h2
        rw [if_pos h6, if_pos h6]
        refine next_out rfl h2 (fun h1 => pa_succ ws f _ _ h1) fun a j2 h2 => ?_
        by_cases h7 : isW ws j2 1 [101, 108, 115, 101] = true
        · rw [if_pos h7] at h2
          rw [if_pos h7, if_pos h7]
          exact next_out rfl h2 (fun h1 => pa_succ ws f _ _ h1) fun b j3 h2 => rfl
        · rw [if_neg h7, if_neg h7]
      · rw [if_neg h6, if_neg h6]
    rw [if_neg h5, if_neg h5]
theorem pa_le (ws : List Wd) {f g : Nat} {lv : Lv} {i : Nat} (hg : f ≤ g) (h : pa ws f lv i ≠ .out) : pa ws g lv i = pa ws f lv i := by
  obtain ⟨d, rfl⟩ := Nat.le.dest hg
  clear hg
  induction d with
  | zero => rfl
  | succ d ih => rw [← Nat.add_assoc, pa_succ ws (f + d) lv i (by rw [ih]; exact h), ih]
/-- what reading from a place on answers -/
def Pa (ws : List Wd) (lv : Lv) (i : Nat) (r : Pr) : Prop := r ≠ .out ∧ ∃ f, pa ws f lv i = r
theorem Pa.det {ws : List Wd} {lv : Lv} {i : Nat} {r s : Pr} (h : Pa ws lv i r) (k : Pa ws lv i s) : r = s := by
  obtain ⟨h0, f, hf⟩ := h
  obtain ⟨k0, g, hg⟩ := k
  rw [← hf, ← hg, ← pa_le ws (Nat.le_max_left f g) (by rw [hf]; exact h0), ← pa_le ws (Nat.le_max_right f g) (by rw [hg]; exact k0)]
theorem Pa.at {ws : List Wd} {lv : Lv} {i : Nat} {r : Pr} (h : Pa ws lv i r) : ∃ f, ∀ g, f ≤ g → pa ws g lv i = r := by
  obtain ⟨h0, f, hf⟩ := h
  exact ⟨f, fun g hg => by rw [pa_le ws hg (by rw [hf]; exact h0), hf]⟩
/-! ### how it is answered -/
theorem Pa.row {ws : List Wd} {k : Rw} {i j : Nat} {t : Tm} {r : Pr} (h : Pa ws k.part i (.ok t j)) (k2 : Pa ws (.rest k [t]) j r) : Pa ws (.row k) i r := by
  obtain ⟨f, hf⟩ := h.at
  obtain ⟨g, hg⟩ := k2.at
  exact ⟨k2.1, max f g + 1, by rw [pa, hf _ (by omega)]; exact hg _ (by omega)⟩
theorem Pa.row_bad {ws : List Wd} {k : Rw} {i j : Nat} (h : Pa ws k.part i (.bad j)) : Pa ws (.row k) i (.bad j) := by
  obtain ⟨f, hf⟩ := h.at
  exact ⟨by simp, f + 1, by rw [pa, hf _ (by omega)]; rfl⟩
theorem Pa.rest_end {ws : List Wd} {k : Rw} {acc : List Tm} {i : Nat} (h : isW ws i 3 k.sign = false) : Pa ws (.rest k acc) i (.ok (mkRow k acc) i) := ⟨by simp, 1, by rw [pa, if_neg (by simp [h])]⟩
theorem Pa.rest_go {ws : List Wd} {k : Rw} {acc : List Tm} {i j : Nat} {t : Tm} {r : Pr} (hw : isW ws i 3 k.sign = true) (h : Pa ws k.part (i + 1) (.ok t j)) (k2 : Pa ws (.rest k (acc ++ [t])) j r) : Pa ws (.rest k acc) i r := by
  obtain ⟨f, hf⟩ := h.at
  obtain ⟨g, hg⟩ := k2.at
  exact ⟨k2.1, max f g + 1, by rw [pa, if_pos hw, hf _ (by omega)]; exact hg _ (by omega)⟩
theorem Pa.rest_bad {ws : List Wd} {k : Rw} {acc : List Tm} {i j : Nat} (hw : isW ws i 3 k.sign = true) (h : Pa ws k.part (i + 1) (.bad j)) : Pa ws (.rest k acc) i (.bad j) := by
  obtain ⟨f, hf⟩ := h.at
  exact ⟨by simp, f + 1, by rw [pa, if_pos hw, hf _ (by omega)]; rfl⟩
theorem Pa.star {ws : List Wd} {i j : Nat} {t : Tm} {r : Pr} (h : Pa ws .atom i (.ok t j)) (k2 : Pa ws (.stars t) j r) : Pa ws .star i r := by
  obtain ⟨f, hf⟩ := h.at
  obtain ⟨g, hg⟩ := k2.at
  exact ⟨k2.1, max f g + 1, by rw [pa, hf _ (by omega)]; exact hg _ (by omega)⟩
theorem Pa.star_bad {ws : List Wd} {i j : Nat} (h : Pa ws .atom i (.bad j)) : Pa ws .star i (.bad j) := by
  obtain ⟨f, hf⟩ := h.at
  exact ⟨by simp, f + 1, by rw [pa, hf _ (by omega)]; rfl⟩
theorem Pa.stars_end {ws : List Wd} {t : Tm} {i : Nat} (h : isW ws i 3 [42] = false) : Pa ws (.stars t) i (.ok t i) := ⟨by simp, 1, by rw [pa, if_neg (by simp [h])]⟩
theorem Pa.stars_go {ws : List Wd} {t : Tm} {i : Nat} {r : Pr} (h : isW ws i 3 [42] = true) (k : Pa ws (.stars (.mk 10 0 0 [t])) (i + 1) r) : Pa ws (.stars t) i r := by
  obtain ⟨f, hf⟩ := k.at
  exact ⟨k.1, f + 1, by rw [pa, if_pos h]; exact hf _ (by omega)⟩
theorem Pa.one {ws : List Wd} {lv : Lv} {i : Nat} {r : Pr} (h0 : r ≠ .out) {a : Lv} {b : Nat} {s : Pr} (ha : Pa ws a b s) (h : ∀ f, pa ws f a b = s → pa ws (f + 1) lv i = r) : Pa ws lv i r := by
  obtain ⟨f, hf⟩ := ha.at
  exact ⟨h0, f + 1, h f (hf f (Nat.le_refl _))⟩
theorem pa_le_ok (ws : List Wd) : ∀ (f : Nat) (lv : Lv) (i : Nat) (t : Tm) (j : Nat), pa ws f lv i = .ok t j → i ≤ j := by
  intro f
  induction f with
  | zero => intro lv i t j h; cases h
  | succ f ih =>
    have nx : ∀ {r : Pr} {k : Tm → Nat → Pr} {t : Tm} {j : Nat}, r.next k = .ok t j → ∃ t1 j1, r = .ok t1 j1 ∧ k t1 j1 = .ok t j := by
      intro r k t j h
      cases r with
      | ok t1 j1 => exact ⟨t1, j1, rfl, h⟩
      | bad _ => cases h
      | out => cases h
    have pr : ∀ {op : Nat} {sg : List UInt8} {i : Nat} {t : Tm} {j : Nat}, pairS ws op sg i = .ok t j → i ≤ j := by
      intro op sg i t j h
      unfold pairS at h
      split at h
      · cases h
      · split at h
        · cases h
        · split at h
          · split at h
            · split at h
              · split at h
                · injection h with h1 h2; omega
                · cases h
              · cases h
            · cases h
          · cases h
    have cl : ∀ {t0 : Tm} {i : Nat} {t : Tm} {j : Nat}, closeS ws t0 i = .ok t j → i ≤ j := by
      intro t0 i t j h
      unfold closeS at h
      split at h
      · injection h with h1 h2; omega
      · cases h
    intro lv i t j h
    cases lv with
    | row k =>
      rw [pa] at h
      obtain ⟨t1, j1, h1, h2⟩ := nx h
      exact Nat.le_trans (ih _ _ _ _ h1) (ih _ _ _ _ h2)
    | rest k acc =>
      rw [pa] at h
      split at h
      · obtain ⟨t1, j1, h1, h2⟩ := nx h
        have := ih _ _ _ _ h1
        have := ih _ _ _ _ h2
        omega
      · injection h with h1 h2; omega
    | star =>
      rw [pa] at h
      obtain ⟨t1, j1, h1, h2⟩ := nx h
      exact Nat.le_trans (ih _ _ _ _ h1) (ih _ _ _ _ h2)
    | stars t =>
      rw [pa] at h
      split at h
      · have := ih _ _ _ _ h; omega
      · injection h with h1 h2; omega
    | not =>
      rw [pa] at h
      split at h
      · obtain ⟨t1, j1, h1, h2⟩ := nx h
        injection h2 with h3 h4
        have := ih _ _ _ _ h1
        omega
      split at h
      · injection h with h1 h2; omega
      split at h
      · injection h with h1 h2; omega
      split at h
      · obtain ⟨t1, j1, h1, h2⟩ := nx h
        have := ih _ _ _ _ h1
        have := cl h2
        omega
      exact pr h
    | atom =>
      rw [pa] at h
      split at h
      · obtain ⟨t1, j1, h1, h2⟩ := nx h
        injection h2 with h3 h4
        have := ih _ _ _ _ h1
        omega
      split at h
      · injection h with h1 h2; omega
      split at h
      · injection h with h1 h2; omega
      split at h
      · obtain ⟨t1, j1, h1, h2⟩ := nx h
        have := ih _ _ _ _ h1
        have := cl h2
        omega
      split at h
      · obtain ⟨t1, j1, h1, h2⟩ := nx h
        have := ih _ _ _ _ h1
        split at h2
        · obtain ⟨t2, j2, h3, h4⟩ := nx h2
          have := ih _ _ _ _ h3
          split at h4
          · obtain ⟨t3, j3, h5, h6⟩ := nx h4
            injection h6 with h7 h8
            have := ih _ _ _ _ h5
            omega
          · cases h4
        · cases h2
      exact pr h
theorem Pa.le {ws : List Wd} {lv : Lv} {i j : Nat} {t : Tm} (h : Pa ws lv i (.ok t j)) : i ≤ j := by
  obtain ⟨_, f, hf⟩ := h
  exact pa_le_ok ws f lv i t j hf
end Go.Proofs.YtpolbdakhfcilaaGreatDoor.B
