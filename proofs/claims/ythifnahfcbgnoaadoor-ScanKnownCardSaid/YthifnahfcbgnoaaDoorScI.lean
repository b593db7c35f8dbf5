/-
  scan: All.
-/
import Derived.Test.YthifnahfcbgnoaaDoorScH
set_option maxRecDepth 100000
set_option linter.unusedVariables false
set_option linter.unusedSimpArgs false
namespace Go.Proofs.YthifnahfcbgnoaaDoor.B
open Go Go.Proofs Go.Proofs.YthifnahfcbgnoaaDoorEng Go.RowKit

theorem closed_ok {t : List UInt8} {e m kd j n : Nat} (h : closedAt t e m = .ok kd j n) : kd = 2 ∧ j = e ∧ n = m := by
  unfold closedAt at h
  split at h
  · cases h
  · injection h with h1 h2 h3
    exact ⟨h1.symm, h2.symm, h3.symm⟩
theorem cut_pos {t : List UInt8} {a b : Nat} (h : cut t a b ≠ []) : a < b ∧ a < t.length := by
  have h1 : ¬ (cut t a b).length = 0 := fun e => h (List.eq_nil_of_length_eq_zero e)
  simp [cut] at h1
  omega
theorem dots_le {t : List UInt8} {i at_ m kd j n : Nat} (h : dots t i at_ m = .ok kd j n) (hl : at_ ≤ t.length) : kd = 2 ∧ at_ ≤ j ∧ j ≤ t.length ∧ (i < 4 → at_ < j) := by
  by_cases hi : i < 4
  · by_cases hc : i = 0 ∨ isAt t at_ 46 = true
    · generalize hb : (if i = 0 then at_ else at_ + 1) = b
      have hbl : at_ ≤ b := by subst hb; split <;> omega
      generalize he : span isDig t b = e
      by_cases hn : cut t b e ≠ [] ∧ vals 10 (cut t b e) ≤ 255 ∧ ¬ (b + 1 < e ∧ isAt t b 48 = true)
      · rw [dots_go hi hb.symm he.symm hc hn] at h
        have hp := cut_pos hn.1
        have hsp := span_le isDig t b
        rw [he] at hsp
        have := dots_le h (hsp.2 (by omega))
        omega
      · rw [dots_bad hi hb.symm he.symm hc hn] at h
        cases h
    · rw [dots_no hi hc] at h
      cases h
  · rw [dots, if_neg hi] at h
    have := closed_ok h
    exact ⟨this.1, by omega, by omega, fun h => absurd h hi⟩
termination_by 4 - i
theorem num_le {t : List UInt8} {k kd j n : Nat} (h : numAt t k = .ok kd j n) (hk : k < t.length) : kd = 2 ∧ k < j ∧ j ≤ t.length := by
  unfold numAt at h
  split at h
  · rename_i m e hp
    have h1 := closed_ok h
    have h2 := pr_le hp (Nat.le_of_lt hk)
    have := h2.2.2 (by omega)
    exact ⟨h1.1, by omega, by omega⟩
  · split at h
    · unfold hexNum at h
      split at h
      · rename_i hx hy
        have h1 := closed_ok h
        have h2 := cut_pos hy.1
        have h3 := span_le isHex t (k + 2)
        exact ⟨h1.1, by omega, by have := h3.2 (by omega); omega⟩
      · cases h
    · split at h
      · have := dots_le h (Nat.le_of_lt hk)
        exact ⟨this.1, this.2.2.2 (by omega), this.2.2.1⟩
      · unfold decNum at h
        split at h
        · rename_i hy
          split at h
          · cases h
          · have h1 := closed_ok h
            have h2 := cut_pos hy.1
            have h3 := span_le isDig t k
            exact ⟨h1.1, by omega, by have := h3.2 (by omega); omega⟩
        · cases h
theorem one_le {t : List UInt8} {k kd j n : Nat} (h : oneAt t k = .ok kd j n) (hk : k < t.length) : 1 ≤ kd ∧ kd ≤ 3 ∧ k < j ∧ j ≤ t.length := by
  unfold oneAt at h
  split at h
  · have := num_le h hk
    omega
  · split at h
    · rename_i hl
      split at h
      · cases h
      · injection h with h1 h2 h3
        subst h2
        have hgo := span_go (p := isAl) hk (by simp [isAl, hl])
        have h4 := span_le isAl t (k + 1)
        rw [hgo]
        exact ⟨by omega, by omega, by omega, h4.2 (by omega)⟩
    · split at h
      · split at h
        · rename_i hx
          injection h with h1 h2 h3
          simp [isAt] at hx
          omega
        · cases h
      · split at h
        · injection h with h1 h2 h3
          omega
        · cases h

/-- the words from a place on, behind those that there are; or the first fault -/
def scan (t : List UInt8) (k : Nat) (ws : List Wd) : List Wd ⊕ (Nat × Nat × List UInt8) :=
  if h : sk t false k < t.length then (match oneAt t (sk t false k) with
    | .bad e j => .inr (e, sk t false k, cut t (sk t false k) j)
    | .ok kd j m => if h2 : sk t false k < j then scan t j (ws ++ [⟨kd, cut t (sk t false k) j, m, sk t false k⟩]) else .inr (0, 0, [])) else .inl ws
termination_by t.length - k
decreasing_by have := (sk_le t false k).1; omega
theorem scan_end {t : List UInt8} {k : Nat} {ws : List Wd} (h : ¬ sk t false k < t.length) : scan t k ws = .inl ws := by rw [scan, dif_neg h]
theorem scan_bad {t : List UInt8} {k e j : Nat} {ws : List Wd} (h : sk t false k < t.length) (ho : oneAt t (sk t false k) = .bad e j) : scan t k ws = .inr (e, sk t false k, cut t (sk t false k) j) := by rw [scan, dif_pos h, ho]
theorem scan_go {t : List UInt8} {k kd j m : Nat} {ws : List Wd} (h : sk t false k < t.length) (ho : oneAt t (sk t false k) = .ok kd j m) : scan t k ws = scan t j (ws ++ [⟨kd, cut t (sk t false k) j, m, sk t false k⟩]) := by
  rw [scan, dif_pos h, ho]
  exact dif_pos (one_le ho h).2.2.1
def allR (t : List UInt8) : List Wd ⊕ (Nat × Nat × List UInt8) := if t.length > 65536 then .inr (3, 0, []) else match scan t 0 [] with
  | .inl ws => .inl (ws ++ [⟨0, [], 0, t.length⟩])
  | .inr x => .inr x
def AllV (w0 : World) (o : List Wd ⊕ (Nat × Nat × List UInt8)) (v : Value) (w' : World) : Prop := Chg NoS w0 w' ∧ (match o with
  | .inl ws => ∃ a n c, v = .tuple #[.slice a n c, .nilIface] ∧ w'.ownsRow w0.heap.size 39 4 (.slice a n c) n (wcells ws) ∧ n = ws.length
  | .inr x => ∃ b, v = .tuple #[.slice none 0 0, .iface 42 (.pointer (some ⟨b, 0, none⟩))] ∧ w0.heap.size ≤ b ∧ w'.heap[b]? = some (.cells #[.int .i64 (x.1 : Int), .int .i64 (x.2.1 : Int), .string (bs x.2.2)] 44 (0, 0)))
def rpos (w : World) (r : Nat) : Nat := match w.heap[r]? with
  | some (.cells cs _ _) => (match cs[1]? with
    | some (Value.int _ z) => z.toNat
    | _ => 0)
  | _ => 0
theorem rpos_rd {w : World} {r k n c : Nat} {t : List UInt8} {a : Option Addr} (h : Rd w r t k a n c) : rpos w r = k := by
  unfold rpos
  rw [show w.heap[r]? = _ from h]
  rfl
theorem All_ok (w : World) (t : List UInt8) (hE : Errs w) : Calls Tryd.prog 7 #[.string (bs t)] w (endW (AllV w (allR t)) (fun _ _ => False)) := by
  refine F7_calls _ ?_
  delta F7
  rw [bs_size]
  unfold allR
  by_cases hbig : t.length > 65536
  · rw [if_pos (by simp; omega), if_pos hbig]
    exact ⟨chg_alloc w _ _, w.heap.size, rfl, Nat.le_refl _, blk_alloc w _⟩
  rw [if_neg (by simp; omega), if_neg hbig]
  have ht : t.length ≤ 65536 := by omega
  have hr0 : RdO (w.alloc (.cells #[.string (bs t), .int .i64 0, .slice none 0 0] 47)) (w.heap.size + 1) w.heap.size t 0 [] := ⟨none, 0, 0, blk_alloc w _, own_nil' _ _ _ _, rfl, by omega, by rw [size_alloc]; omega, by simp⟩
  have hc0 : Chg (fun b => w.heap.size ≤ b) w (w.alloc (.cells #[.string (bs t), .int .i64 0, .slice none 0 0] 47)) := chg_alloc w _ _
  generalize hr : w.heap.size = r at hr0 hc0 ⊢
  generalize w.alloc (.cells #[.string (bs t), .int .i64 0, .slice none 0 0] 47) = w0 at hr0 hc0 ⊢
  have new : ∀ w', Chg (fun b => r ≤ b) w w' → Chg NoS w w' := fun w' hc => hc.mono fun b hb hx => by omega
  refine Calls.then (skip_ok hr0 (by omega) ht) ?_
  rintro v w1 ⟨hr1, hc1⟩
  refine ⟨fun _ w' => ∃ (k : Nat) (ws : List Wd), RdO w' (r + 1) r t (sk t false k) ws ∧ k ≤ t.length ∧ ws.length ≤ k ∧ scan t k ws = scan t 0 [] ∧ Chg (fun b => r ≤ b) w w', fun _ w' => t.length - rpos w' r, ⟨(), trivial, 0, [], hr1, by omega, by simp, rfl, hc0.trans hc1⟩, ?_⟩
  rintro _ w2 ⟨k, ws, hr2, hkl, hwl, hsc, hc2⟩ _
  have hr2' := hr2
  obtain ⟨a, n, c, h1, h2, h3, h4, h5, h6⟩ := hr2'
  have hmu : rpos w2 r = sk t false k := by
    exact rpos_rd h1
  have hskl := sk_le t false k
  refine ⟨_, h1.at_, ?_⟩
  by_cases hlt : sk t false k < t.length
  · rw [if_pos (by simp; omega)]
    refine Calls.then (word_ok hr2 hlt ht (by omega) (hE.chg (new _ hc2))) ?_
    intro v w3 hres
    obtain ⟨hc3, hres2⟩ := hres
    cases ho : oneAt t (sk t false k) with
    | bad e j =>
      rw [ho] at hres2
      obtain ⟨b, rfl, hb, hcell⟩ := hres2
      refine ⟨_, rfl, ?_⟩
      rw [if_pos (by rfl), ← hsc, scan_bad hlt ho]
      exact ⟨new _ (hc2.trans hc3), b, rfl, by have := hc2.size; omega, hcell⟩
    | ok kd j m =>
      rw [ho] at hres2
      obtain ⟨rfl, hr3⟩ := hres2
      refine ⟨_, rfl, ?_⟩
      rw [if_neg (by decide)]
      have hle := one_le ho hlt
      refine Calls.then (skip_ok hr3 hle.2.2.2 ht) ?_
      rintro v w4 ⟨hr4, hc4⟩
      refine ⟨(), trivial, ⟨j, _, hr4, hle.2.2.2, by simp; omega, by rw [← scan_go hlt ho]; exact hsc, (hc2.trans hc3).trans hc4⟩, ?_⟩
      obtain ⟨a4, n4, c4, g1, _⟩ := hr4
      have hm4 := rpos_rd g1
      have := (sk_le t false j).1
      dsimp only
      rw [hmu, hm4]
      omega
  · rw [if_neg (by simp; omega), ← hsc, scan_end hlt]
    refine ⟨_, _, _, h1.l, ?_⟩
    refine push_ok (x := ⟨0, [], 0, t.length⟩) h2 (by omega) h5 ?_
    intro a' c' w3 ho3 hc3
    refine ⟨_, _, _, rfl, new _ (hc2.trans (hc3.mono fun b _ hb => by omega)), a', n + 1, c', rfl, ?_, by simp [h3]⟩
    rw [hr]
    exact own_base' ho3 fun b hb => by have := (own_lt' ho3 hb).2; omega
end Go.Proofs.YthifnahfcbgnoaaDoor.B
