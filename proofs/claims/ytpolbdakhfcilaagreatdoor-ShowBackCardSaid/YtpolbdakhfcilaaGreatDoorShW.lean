/-
  show: numbers and names are words.
-/
import Derived.Test.YtpolbdakhfcilaaGreatDoorShV
set_option maxRecDepth 100000
set_option linter.unusedVariables false
set_option linter.unusedSimpArgs false
namespace Go.Proofs.YtpolbdakhfcilaaGreatDoor.B
open Go Go.Proofs Go.Proofs.YtpolbdakhfcilaaGreatDoorEng Go.RowKit

theorem no_pairs {w : List UInt8} (h : ∀ j, j < w.length → g w j ≠ 58) : pairsAt w 0 = none := by
  have no58 : ∀ k, isAt w k 58 = false := fun k => decide_eq_false fun e => h k e.1 e.2
  unfold pairsAt
  cases hp : pr w 0 0 0 with
  | none => rfl
  | some z =>
    exfalso
    have hc := pr_cond (by omega) hp
    rw [pr_go (b := 0) (by omega) rfl hc.1 hc.2.1 hc.2.2.1 hc.2.2.2] at hp
    have hc2 := (pr_cond (by omega) hp).1
    rw [no58] at hc2
    rcases hc2 with h | h
    · omega
    · cases h
theorem hex_facts : ∀ k, k < 16 → isHex (H.hexc k).toNat = true ∧ hv (H.hexc k).toNat = k := by decide
theorem mac_pairs (x0 x1 x2 x3 x4 x5 y0 y1 y2 y3 y4 y5 : Nat) (hx : x0 < 16 ∧ x1 < 16 ∧ x2 < 16 ∧ x3 < 16 ∧ x4 < 16 ∧ x5 < 16) (hy : y0 < 16 ∧ y1 < 16 ∧ y2 < 16 ∧ y3 < 16 ∧ y4 < 16 ∧ y5 < 16) :
    pairsAt [H.hexc x0, H.hexc y0, 58, H.hexc x1, H.hexc y1, 58, H.hexc x2, H.hexc y2, 58, H.hexc x3, H.hexc y3, 58, H.hexc x4, H.hexc y4, 58, H.hexc x5, H.hexc y5] 0 = some ((((((x0 * 16 + y0) * 256 + (x1 * 16 + y1)) * 256 + (x2 * 16 + y2)) * 256 + (x3 * 16 + y3)) * 256 + (x4 * 16 + y4)) * 256 + (x5 * 16 + y5), 17) := by
  obtain ⟨a0, a1, a2, a3, a4, a5⟩ := hx
  obtain ⟨b0, b1, b2, b3, b4, b5⟩ := hy
  unfold pairsAt
  rw [pr_go (t := [H.hexc x0, H.hexc y0, 58, H.hexc x1, H.hexc y1, 58, H.hexc x2, H.hexc y2, 58, H.hexc x3, H.hexc y3, 58, H.hexc x4, H.hexc y4, 58, H.hexc x5, H.hexc y5]) (b := 0) (by omega) rfl (.inl rfl) (by simp) (hex_facts x0 a0).1 (hex_facts y0 b0).1]
  rw [pr_go (t := [H.hexc x0, H.hexc y0, 58, H.hexc x1, H.hexc y1, 58, H.hexc x2, H.hexc y2, 58, H.hexc x3, H.hexc y3, 58, H.hexc x4, H.hexc y4, 58, H.hexc x5, H.hexc y5]) (b := 3) (by omega) rfl (.inr rfl) (by simp) (hex_facts x1 a1).1 (hex_facts y1 b1).1]
  rw [pr_go (t := [H.hexc x0, H.hexc y0, 58, H.hexc x1, H.hexc y1, 58, H.hexc x2, H.hexc y2, 58, H.hexc x3, H.hexc y3, 58, H.hexc x4, H.hexc y4, 58, H.hexc x5, H.hexc y5]) (b := 6) (by omega) rfl (.inr rfl) (by simp) (hex_facts x2 a2).1 (hex_facts y2 b2).1]
  rw [pr_go (t := [H.hexc x0, H.hexc y0, 58, H.hexc x1, H.hexc y1, 58, H.hexc x2, H.hexc y2, 58, H.hexc x3, H.hexc y3, 58, H.hexc x4, H.hexc y4, 58, H.hexc x5, H.hexc y5]) (b := 9) (by omega) rfl (.inr rfl) (by simp) (hex_facts x3 a3).1 (hex_facts y3 b3).1]
  rw [pr_go (t := [H.hexc x0, H.hexc y0, 58, H.hexc x1, H.hexc y1, 58, H.hexc x2, H.hexc y2, 58, H.hexc x3, H.hexc y3, 58, H.hexc x4, H.hexc y4, 58, H.hexc x5, H.hexc y5]) (b := 12) (by omega) rfl (.inr rfl) (by simp) (hex_facts x4 a4).1 (hex_facts y4 b4).1]
  rw [pr_go (t := [H.hexc x0, H.hexc y0, 58, H.hexc x1, H.hexc y1, 58, H.hexc x2, H.hexc y2, 58, H.hexc x3, H.hexc y3, 58, H.hexc x4, H.hexc y4, 58, H.hexc x5, H.hexc y5]) (b := 15) (by omega) rfl (.inr rfl) (by simp) (hex_facts x5 a5).1 (hex_facts y5 b5).1, pr_end]
  show some ((((((0 * 256 + (hv (H.hexc x0).toNat * 16 + hv (H.hexc y0).toNat)) * 256 + (hv (H.hexc x1).toNat * 16 + hv (H.hexc y1).toNat)) * 256 + (hv (H.hexc x2).toNat * 16 + hv (H.hexc y2).toNat)) * 256 + (hv (H.hexc x3).toNat * 16 + hv (H.hexc y3).toNat)) * 256 + (hv (H.hexc x4).toNat * 16 + hv (H.hexc y4).toNat)) * 256 + (hv (H.hexc x5).toNat * 16 + hv (H.hexc y5).toNat), 17) = _
  rw [(hex_facts x0 a0).2, (hex_facts x1 a1).2, (hex_facts x2 a2).2, (hex_facts x3 a3).2, (hex_facts x4 a4).2, (hex_facts x5 a5).2, (hex_facts y0 b0).2, (hex_facts y1 b1).2, (hex_facts y2 b2).2, (hex_facts y3 b3).2, (hex_facts y4 b4).2, (hex_facts y5 b5).2]
  simp
theorem hexc_good : ∀ k, k < 16 → ¬ blankc (H.hexc k).toNat ∧ (H.hexc k).toNat ≠ 35 := by
  unfold blankc
  decide
theorem mac_good {f n : Nat} (hf : f = 0 ∨ f = 1) (hn : n < 281474976710656) : Good (H.numTxt f n) ∧ kdOf (H.numTxt f n) = 2 ∧ nmOf (H.numTxt f n) = n := by
  have e : H.numTxt f n = [H.hexc (n / 2 ^ 40 % 256 / 16 % 16), H.hexc (n / 2 ^ 40 % 256 % 16), 58, H.hexc (n / 2 ^ 32 % 256 / 16 % 16), H.hexc (n / 2 ^ 32 % 256 % 16), 58, H.hexc (n / 2 ^ 24 % 256 / 16 % 16), H.hexc (n / 2 ^ 24 % 256 % 16), 58, H.hexc (n / 2 ^ 16 % 256 / 16 % 16), H.hexc (n / 2 ^ 16 % 256 % 16), 58, H.hexc (n / 2 ^ 8 % 256 / 16 % 16), H.hexc (n / 2 ^ 8 % 256 % 16), 58, H.hexc (n % 256 / 16 % 16), H.hexc (n % 256 % 16)] := by
    unfold H.numTxt
    rw [if_pos hf]
    simp [List.range, List.range.loop, H.macPart, H.hexs, Lib.join, List.intercalate]
  have hp := mac_pairs (n / 2 ^ 40 % 256 / 16 % 16) (n / 2 ^ 32 % 256 / 16 % 16) (n / 2 ^ 24 % 256 / 16 % 16) (n / 2 ^ 16 % 256 / 16 % 16) (n / 2 ^ 8 % 256 / 16 % 16) (n % 256 / 16 % 16) (n / 2 ^ 40 % 256 % 16) (n / 2 ^ 32 % 256 % 16) (n / 2 ^ 24 % 256 % 16) (n / 2 ^ 16 % 256 % 16) (n / 2 ^ 8 % 256 % 16) (n % 256 % 16) (by omega) (by omega)
  rw [← e] at hp
  have hl : (H.numTxt f n).length = 17 := by rw [e]; rfl
  have hval : (((((n / 2 ^ 40 % 256 / 16 % 16 * 16 + n / 2 ^ 40 % 256 % 16) * 256 + (n / 2 ^ 32 % 256 / 16 % 16 * 16 + n / 2 ^ 32 % 256 % 16)) * 256 + (n / 2 ^ 24 % 256 / 16 % 16 * 16 + n / 2 ^ 24 % 256 % 16)) * 256 + (n / 2 ^ 16 % 256 / 16 % 16 * 16 + n / 2 ^ 16 % 256 % 16)) * 256 + (n / 2 ^ 8 % 256 / 16 % 16 * 16 + n / 2 ^ 8 % 256 % 16)) * 256 + (n % 256 / 16 % 16 * 16 + n % 256 % 16) = n := by omega
  rw [hval] at hp
  have g0 : g (H.numTxt f n) 0 = (H.hexc (n / 2 ^ 40 % 256 / 16 % 16)).toNat := by rw [e]; rfl
  have hg := hexc_good (n / 2 ^ 40 % 256 / 16 % 16) (by omega)
  refine good_of ?_ (by omega) (by rw [g0]; exact hg.1) (by rw [g0]; exact hg.2)
  unfold oneAt
  rw [if_pos (.inl (by rw [hp]; rfl))]
  unfold numAt
  rw [hp]
  dsimp only
  unfold closedAt
  rw [hl, if_neg (by omega)]
theorem dec_split {n : Nat} (h : ¬ n < 10) : Lib.decDigits n = Lib.decDigits (n / 10) ++ [UInt8.ofNat (48 + n % 10)] := by rw [Lib.decDigits, dif_neg h]
theorem dec_small {n : Nat} (h : n < 10) : Lib.decDigits n = [UInt8.ofNat (48 + n)] := by rw [Lib.decDigits, dif_pos h]
theorem d_nat : ∀ d, d < 10 → (UInt8.ofNat (48 + d)).toNat = 48 + d ∧ hv (UInt8.ofNat (48 + d)).toNat = d := by decide
theorem dec_facts : ∀ (n : Nat), (∀ c ∈ Lib.decDigits n, 48 ≤ c.toNat ∧ c.toNat ≤ 57) ∧ vals 10 (Lib.decDigits n) = n ∧ 0 < (Lib.decDigits n).length ∧ (1 ≤ n → g (Lib.decDigits n) 0 ≠ 48) ∧ (n < 10 → (Lib.decDigits n).length = 1) := by
  intro n
  induction n using Nat.strongRecOn with
  | _ n ih =>
    by_cases h : n < 10
    · rw [dec_small h]
      obtain ⟨h1, h2⟩ := d_nat n h
      refine ⟨fun c hc => ?_, ?_, by simp, fun h0 => ?_, fun _ => rfl⟩
      · rw [List.mem_singleton.1 hc, h1]; omega
      · show 0 * 10 + hv (UInt8.ofNat (48 + n)).toNat = n
        rw [h2]; omega
      · show (UInt8.ofNat (48 + n)).toNat ≠ 48
        rw [h1]; omega
    · rw [dec_split h]
      obtain ⟨i1, i2, i3, i4, _⟩ := ih (n / 10) (by omega)
      obtain ⟨h1, h2⟩ := d_nat (n % 10) (by omega)
      refine ⟨fun c hc => ?_, ?_, by simp, fun _ => ?_, fun h' => absurd h' h⟩
      · rcases List.mem_append.1 hc with hc | hc
        · exact i1 c hc
        · rw [List.mem_singleton.1 hc, h1]; omega
      · have e : vals 10 (Lib.decDigits (n / 10) ++ [UInt8.ofNat (48 + n % 10)]) = vals 10 (Lib.decDigits (n / 10)) * 10 + hv (UInt8.ofNat (48 + n % 10)).toNat := by
          unfold vals
          rw [List.foldl_append]
          rfl
        rw [e, i2, h2]; omega
      · rw [g_left i3]
        exact i4 (by omega)
theorem g_mem {l : List UInt8} {j : Nat} (hj : j < l.length) : ∃ c ∈ l, g l j = c.toNat := ⟨l[j], List.getElem_mem hj, by unfold g; simp [List.getD, List.getElem?_eq_getElem hj]⟩
theorem dec_dig (n : Nat) {j : Nat} (hj : j < (Lib.decDigits n).length) : isDig (g (Lib.decDigits n) j) = true := by
  obtain ⟨c, hc, e⟩ := g_mem hj
  have := (dec_facts n).1 c hc
  rw [e]
  exact decide_eq_true this
theorem dec_ne (n : Nat) : Lib.decDigits n ≠ [] := fun e => by
  have := (dec_facts n).2.2.1
  rw [e] at this
  simp at this
theorem span_seg {p : Nat → Bool} {u : List UInt8} : ∀ (m k : Nat), (∀ j, j < m → k + j < u.length ∧ p (g u (k + j)) = true) → ¬ (k + m < u.length ∧ p (g u (k + m)) = true) → span p u k = k + m
  | 0, k, _, h2 => span_no h2
  | m + 1, k, h1, h2 => by
    have h0 := h1 0 (by omega)
    rw [Nat.add_zero] at h0
    rw [span_go h0.1 h0.2, span_seg m (k + 1) (fun j hj => by have := h1 (j + 1) (by omega); rwa [show k + 1 + j = k + (j + 1) by omega]) (by rwa [show k + 1 + m = k + (m + 1) by omega])]
    omega
/-- digits that stand in a text, with what is no digit behind them -/
theorem dec_in {u pre rest : List UInt8} {x : Nat} (hu : u = pre ++ (Lib.decDigits x ++ rest)) (hr : rest = [] ∨ ∃ c r, rest = c :: r ∧ isDig c.toNat = false) : span isDig u pre.length = pre.length + (Lib.decDigits x).length ∧ cut u pre.length (pre.length + (Lib.decDigits x).length) = Lib.decDigits x ∧ (pre.length + 1 < pre.length + (Lib.decDigits x).length → isAt u pre.length 48 = false) := by
  subst hu
  have gi : ∀ j, j < (Lib.decDigits x).length → g (pre ++ (Lib.decDigits x ++ rest)) (pre.length + j) = g (Lib.decDigits x) j := fun j hj => by rw [g_right, g_left hj]
  refine ⟨span_seg _ _ (fun j hj => ⟨by simp; omega, by rw [gi j hj]; exact dec_dig x hj⟩) ?_, ?_, fun h => ?_⟩
  · rintro ⟨h1, h2⟩
    rcases hr with rfl | ⟨c, r, rfl, hc⟩
    · simp at h1
    · have := g_right (pre ++ Lib.decDigits x) (c :: r) 0
      rw [Nat.add_zero, List.append_assoc, List.length_append] at this
      rw [this] at h2
      have e : g (c :: r) 0 = c.toNat := rfl
      rw [e, hc] at h2
      cases h2
  · unfold cut
    rw [List.drop_left, Nat.add_sub_cancel_left, List.take_left]
  · refine decide_eq_false fun e => ?_
    have hx : ¬ x < 10 := fun hx => by have := (dec_facts x).2.2.2.2 hx; omega
    have h0 := gi 0 (dec_facts x).2.2.1
    rw [Nat.add_zero] at h0
    rw [h0] at e
    exact (dec_facts x).2.2.2.1 (by omega) e.2
theorem digit_free {w : List UInt8} (h : ∀ c ∈ w, (48 ≤ c.toNat ∧ c.toNat ≤ 57) ∨ c.toNat = 46) : (∀ j, j < w.length → g w j ≠ 58) ∧ isAt w 1 120 = false := by
  refine ⟨fun j hj e => ?_, decide_eq_false fun e => ?_⟩
  · obtain ⟨c, hc, e2⟩ := g_mem hj
    have := h c hc
    omega
  · obtain ⟨c, hc, e2⟩ := g_mem e.1
    have := h c hc
    omega
theorem dec_good {n : Nat} (hn : n ≤ 18446744073709551615) : Good (Lib.decDigits n) ∧ kdOf (Lib.decDigits n) = 2 ∧ nmOf (Lib.decDigits n) = n := by
  obtain ⟨f1, f2, f3, f4, f5⟩ := dec_facts n
  obtain ⟨d1, d2⟩ := digit_free (w := Lib.decDigits n) fun c hc => .inl (f1 c hc)
  have hg := dec_dig n f3
  have hg' := of_decide_eq_true hg
  obtain ⟨s1, s2, s3⟩ := dec_in (u := Lib.decDigits n) (pre := []) (rest := []) (x := n) (by simp) (.inl rfl)
  simp only [List.length_nil, Nat.zero_add] at s1 s2 s3
  refine good_of ?_ f3 (by unfold blankc; omega) (by omega)
  unfold oneAt
  rw [if_pos (.inr hg)]
  unfold numAt
  rw [no_pairs d1]
  dsimp only
  rw [if_neg (by rw [d2]; simp), s1, if_neg (by unfold isAt; simp)]
  unfold decNum
  rw [s1, s2, if_pos ⟨dec_ne n, by rw [f2]; exact hn⟩, if_neg (fun e => by have := s3 (by omega); rw [this] at e; cases e.2), f2]
  unfold closedAt
  rw [if_neg (by omega)]
theorem dstep {u pre rest : List UInt8} {x i at_ m : Nat} (hu : u = pre ++ (Lib.decDigits x ++ rest)) (hr : rest = [] ∨ ∃ c r, rest = c :: r ∧ isDig c.toNat = false) (hx : x ≤ 255) (hi : i < 4) (hb : pre.length = if i = 0 then at_ else at_ + 1) (h : i = 0 ∨ isAt u at_ 46 = true) : dots u i at_ m = dots u (i + 1) (pre.length + (Lib.decDigits x).length) (m * 256 + x) := by
  obtain ⟨s1, s2, s3⟩ := dec_in hu hr
  obtain ⟨_, f2, f3, _, _⟩ := dec_facts x
  rw [dots_go (b := pre.length) (e := pre.length + (Lib.decDigits x).length) hi hb s1.symm h ⟨by rw [s2]; exact dec_ne x, by rw [s2, f2]; exact hx, fun e => by have := s3 e.1; rw [this] at e; cases e.2⟩, s2, f2]
theorem at_dot (pre : List UInt8) (rest : List UInt8) : isAt (pre ++ 46 :: rest) pre.length 46 = true := by
  have := g_right pre (46 :: rest) 0
  rw [Nat.add_zero] at this
  exact decide_eq_true ⟨by simp, by rw [this]; rfl⟩
theorem ip_good {f n : Nat} (hf : f = 4 ∨ f = 5) (hn : n < 4294967296) : Good (H.numTxt f n) ∧ kdOf (H.numTxt f n) = 2 ∧ nmOf (H.numTxt f n) = n := by
  have e : H.numTxt f n = Lib.decDigits (n / 2 ^ 24 % 256) ++ 46 :: (Lib.decDigits (n / 2 ^ 16 % 256) ++ 46 :: (Lib.decDigits (n / 2 ^ 8 % 256) ++ 46 :: Lib.decDigits (n % 256))) := by
    unfold H.numTxt
    rw [if_neg (by omega), if_pos hf, H.ip_join]
    simp [H.ipPart]
  generalize hx0 : n / 2 ^ 24 % 256 = x0 at e
  generalize hx1 : n / 2 ^ 16 % 256 = x1 at e
  generalize hx2 : n / 2 ^ 8 % 256 = x2 at e
  generalize hx3 : n % 256 = x3 at e
  have b0 : x0 ≤ 255 := by omega
  have b1 : x1 ≤ 255 := by omega
  have b2 : x2 ≤ 255 := by omega
  have b3 : x3 ≤ 255 := by omega
  have hval : (((0 * 256 + x0) * 256 + x1) * 256 + x2) * 256 + x3 = n := by omega
  generalize H.numTxt f n = w at e ⊢
  have hall : ∀ c ∈ w, (48 ≤ c.toNat ∧ c.toNat ≤ 57) ∨ c.toNat = 46 := by
    rw [e]
    intro c hc
    simp only [List.mem_append, List.mem_cons] at hc
    rcases hc with hc | rfl | hc | rfl | hc | rfl | hc
    · exact .inl ((dec_facts x0).1 c hc)
    · exact .inr rfl
    · exact .inl ((dec_facts x1).1 c hc)
    · exact .inr rfl
    · exact .inl ((dec_facts x2).1 c hc)
    · exact .inr rfl
    · exact .inl ((dec_facts x3).1 c hc)
  obtain ⟨d1, d2⟩ := digit_free hall
  have l0 := (dec_facts x0).2.2.1
  have hg : isDig (g w 0) = true := by rw [e, g_left l0]; exact dec_dig x0 l0
  have hg' := of_decide_eq_true hg
  have dd : ∀ r : List UInt8, (46 : UInt8) :: r = [] ∨ ∃ c r', (46 : UInt8) :: r = c :: r' ∧ isDig c.toNat = false := fun r => .inr ⟨46, r, rfl, by decide⟩
  have e1 : w = [] ++ (Lib.decDigits x0 ++ 46 :: (Lib.decDigits x1 ++ 46 :: (Lib.decDigits x2 ++ 46 :: Lib.decDigits x3))) := e
  have e2 : w = (Lib.decDigits x0 ++ [46]) ++ (Lib.decDigits x1 ++ 46 :: (Lib.decDigits x2 ++ 46 :: Lib.decDigits x3)) := by rw [e]; simp
  have e3 : w = (Lib.decDigits x0 ++ 46 :: (Lib.decDigits x1 ++ [46])) ++ (Lib.decDigits x2 ++ 46 :: Lib.decDigits x3) := by rw [e]; simp
  have e4 : w = (Lib.decDigits x0 ++ 46 :: (Lib.decDigits x1 ++ 46 :: (Lib.decDigits x2 ++ [46]))) ++ (Lib.decDigits x3 ++ []) := by rw [e]; simp
  have p1 : isAt w (Lib.decDigits x0).length 46 = true := by rw [e]; exact at_dot _ _
  have p2 : isAt w ((Lib.decDigits x0).length + 1 + (Lib.decDigits x1).length) 46 = true := by
    have := at_dot (Lib.decDigits x0 ++ 46 :: Lib.decDigits x1) (Lib.decDigits x2 ++ 46 :: Lib.decDigits x3)
    rw [show (Lib.decDigits x0 ++ 46 :: Lib.decDigits x1) ++ 46 :: (Lib.decDigits x2 ++ 46 :: Lib.decDigits x3) = w by rw [e]; simp] at this
    rw [← this]
    congr 1
    simp; omega
  have p3 : isAt w ((Lib.decDigits x0).length + 1 + (Lib.decDigits x1).length + 1 + (Lib.decDigits x2).length) 46 = true := by
    have := at_dot (Lib.decDigits x0 ++ 46 :: (Lib.decDigits x1 ++ 46 :: Lib.decDigits x2)) (Lib.decDigits x3)
    rw [show (Lib.decDigits x0 ++ 46 :: (Lib.decDigits x1 ++ 46 :: Lib.decDigits x2)) ++ 46 :: Lib.decDigits x3 = w by rw [e]; simp] at this
    rw [← this]
    congr 1
    simp; omega
  have s0 := (dec_in e1 (dd _)).1
  simp only [List.length_nil, Nat.zero_add] at s0
  have L1 : (Lib.decDigits x0 ++ [46]).length + (Lib.decDigits x1).length = (Lib.decDigits x0).length + 1 + (Lib.decDigits x1).length := by simp
  have L2 : (Lib.decDigits x0 ++ 46 :: (Lib.decDigits x1 ++ [46])).length + (Lib.decDigits x2).length = (Lib.decDigits x0).length + 1 + (Lib.decDigits x1).length + 1 + (Lib.decDigits x2).length := by simp; omega
  have hd : dots w 0 0 0 = .ok 2 w.length n := by
    rw [dstep e1 (dd _) b0 (by omega) rfl (.inl rfl)]
    simp only [List.length_nil, Nat.zero_add]
    rw [dstep e2 (dd _) b1 (by omega) (by simp) (.inr p1), L1]
    rw [dstep e3 (dd _) b2 (by omega) (by simp; omega) (.inr p2), L2]
    rw [dstep e4 (.inl rfl) b3 (by omega) (by simp; omega) (.inr p3)]
    have el : (Lib.decDigits x0 ++ 46 :: (Lib.decDigits x1 ++ 46 :: (Lib.decDigits x2 ++ [46]))).length + (Lib.decDigits x3).length = w.length := by
      have := congrArg List.length e4
      rw [List.length_append, List.append_nil] at this
      exact this.symm
    rw [el, dots_end]
    unfold closedAt
    rw [if_neg (by omega)]
    rw [hval]
  have hwl : 0 < w.length := by
    have := congrArg List.length e
    rw [List.length_append] at this
    omega
  refine good_of ?_ hwl (by unfold blankc; omega) (by omega)
  unfold oneAt
  rw [if_pos (.inr hg)]
  unfold numAt
  rw [no_pairs d1]
  dsimp only
  rw [if_neg (by rw [d2]; simp), s0, if_pos p1, hd]
theorem nam_good : ∀ k, k < 11 → Good (H.nam k) ∧ kdOf (H.nam k) = 1 ∧ keyOf (H.nam k) = some (k : Int)
  | 0, _ => ⟨(good_of (kd := 1) (n := 0) (by kernel_rfl) (by decide) (by unfold blankc; decide) (by decide)).1, by kernel_rfl, by kernel_rfl⟩
  | 1, _ => ⟨(good_of (kd := 1) (n := 0) (by kernel_rfl) (by decide) (by unfold blankc; decide) (by decide)).1, by kernel_rfl, by kernel_rfl⟩
  | 2, _ => ⟨(good_of (kd := 1) (n := 0) (by kernel_rfl) (by decide) (by unfold blankc; decide) (by decide)).1, by kernel_rfl, by kernel_rfl⟩
  | 3, _ => ⟨(good_of (kd := 1) (n := 0) (by kernel_rfl) (by decide) (by unfold blankc; decide) (by decide)).1, by kernel_rfl, by kernel_rfl⟩
  | 4, _ => ⟨(good_of (kd := 1) (n := 0) (by kernel_rfl) (by decide) (by unfold blankc; decide) (by decide)).1, by kernel_rfl, by kernel_rfl⟩
  | 5, _ => ⟨(good_of (kd := 1) (n := 0) (by kernel_rfl) (by decide) (by unfold blankc; decide) (by decide)).1, by kernel_rfl, by kernel_rfl⟩
  | 6, _ => ⟨(good_of (kd := 1) (n := 0) (by kernel_rfl) (by decide) (by unfold blankc; decide) (by decide)).1, by kernel_rfl, by kernel_rfl⟩
  | 7, _ => ⟨(good_of (kd := 1) (n := 0) (by kernel_rfl) (by decide) (by unfold blankc; decide) (by decide)).1, by kernel_rfl, by kernel_rfl⟩
  | 8, _ => ⟨(good_of (kd := 1) (n := 0) (by kernel_rfl) (by decide) (by unfold blankc; decide) (by decide)).1, by kernel_rfl, by kernel_rfl⟩
  | 9, _ => ⟨(good_of (kd := 1) (n := 0) (by kernel_rfl) (by decide) (by unfold blankc; decide) (by decide)).1, by kernel_rfl, by kernel_rfl⟩
  | 10, _ => ⟨(good_of (kd := 1) (n := 0) (by kernel_rfl) (by decide) (by unfold blankc; decide) (by decide)).1, by kernel_rfl, by kernel_rfl⟩
  | k + 11, h => by omega
theorem num_good {fk nk : Nat} (hf : fk < 11) (hfit : H.fitsN (fk : Int) nk = true) : Good (H.numTxt fk nk) ∧ kdOf (H.numTxt fk nk) = 2 ∧ nmOf (H.numTxt fk nk) = nk := by
  rw [H.fitsN_nat hf] at hfit
  have hlt := of_decide_eq_true hfit
  by_cases h1 : fk = 0 ∨ fk = 1
  · refine mac_good h1 ?_
    rcases h1 with rfl | rfl
    · exact hlt
    · exact hlt
  · by_cases h2 : fk = 4 ∨ fk = 5
    · refine ip_good h2 ?_
      rcases h2 with rfl | rfl
      · exact hlt
      · exact hlt
    · have e : H.numTxt fk nk = Lib.decDigits nk := by
        unfold H.numTxt
        rw [if_neg h1, if_neg h2]
      rw [e]
      refine dec_good ?_
      have hw : H.wid fk ≤ 48 := by
        have := H.widI_le (fk : Int)
        unfold H.widI at this
        rw [if_pos (by omega)] at this
        simpa using this
      have : 2 ^ H.wid fk ≤ 2 ^ 48 := Nat.pow_le_pow_right (by omega) hw
      have e48 : (2 : Nat) ^ 48 = 281474976710656 := by decide
      omega
theorem leafH : LeafH := fun fk nk hf _ hfit => ⟨(nam_good fk hf).2.1, (nam_good fk hf).2.2, (num_good hf hfit).2.1, (num_good hf hfit).2.2⟩
theorem const_good : ∀ s ∈ ([[33], [40], [41], [42], [38], [124], [59], [43], [61], [58, 61], [116, 114, 117, 101], [102, 97, 108, 115, 101], [105, 100], [100, 114, 111, 112], [102, 105, 108, 116, 101, 114], [99, 111, 117, 110, 116]] : Ws), Good s := by
  intro s hs
  simp only [List.mem_cons, List.not_mem_nil, or_false] at hs
  rcases hs with rfl | rfl | rfl | rfl | rfl | rfl | rfl | rfl | rfl | rfl | rfl | rfl | rfl | rfl | rfl | rfl
  · exact (good_of (kd := 3) (n := 0) (by kernel_rfl) (by decide) (by unfold blankc; decide) (by decide)).1
  · exact (good_of (kd := 3) (n := 0) (by kernel_rfl) (by decide) (by unfold blankc; decide) (by decide)).1
  · exact (good_of (kd := 3) (n := 0) (by kernel_rfl) (by decide) (by unfold blankc; decide) (by decide)).1
  · exact (good_of (kd := 3) (n := 0) (by kernel_rfl) (by decide) (by unfold blankc; decide) (by decide)).1
  · exact (good_of (kd := 3) (n := 0) (by kernel_rfl) (by decide) (by unfold blankc; decide) (by decide)).1
  · exact (good_of (kd := 3) (n := 0) (by kernel_rfl) (by decide) (by unfold blankc; decide) (by decide)).1
  · exact (good_of (kd := 3) (n := 0) (by kernel_rfl) (by decide) (by unfold blankc; decide) (by decide)).1
  · exact (good_of (kd := 3) (n := 0) (by kernel_rfl) (by decide) (by unfold blankc; decide) (by decide)).1
  · exact (good_of (kd := 3) (n := 0) (by kernel_rfl) (by decide) (by unfold blankc; decide) (by decide)).1
  · exact (good_of (kd := 3) (n := 0) (by kernel_rfl) (by decide) (by unfold blankc; decide) (by decide)).1
  · exact (good_of (kd := 1) (n := 0) (by kernel_rfl) (by decide) (by unfold blankc; decide) (by decide)).1
  · exact (good_of (kd := 1) (n := 0) (by kernel_rfl) (by decide) (by unfold blankc; decide) (by decide)).1
  · exact (good_of (kd := 1) (n := 0) (by kernel_rfl) (by decide) (by unfold blankc; decide) (by decide)).1
  · exact (good_of (kd := 1) (n := 0) (by kernel_rfl) (by decide) (by unfold blankc; decide) (by decide)).1
  · exact (good_of (kd := 1) (n := 0) (by kernel_rfl) (by decide) (by unfold blankc; decide) (by decide)).1
  · exact (good_of (kd := 1) (n := 0) (by kernel_rfl) (by decide) (by unfold blankc; decide) (by decide)).1
theorem name_good {s : List UInt8} (h : Wform s) : Good s ∧ kdOf s = 1 := by
  obtain ⟨h1, h2, h3, h4⟩ := h
  have al : ∀ c, isAl c = (isLet c || isDig c) := fun _ => rfl
  have a0 := h4 0 (by omega)
  have i0 := (isAl_iff (g s 0)).1 a0
  have hd : isDig (g s 0) = false := decide_eq_false h3
  have hl : isLet (g s 0) = true := by
    rw [al, hd] at a0
    simpa using a0
  have hsp : span isAl s 0 = s.length := by
    have := span_seg (p := isAl) (u := s) s.length 0 (fun j hj => ⟨by omega, by rw [Nat.zero_add]; exact h4 j hj⟩) (by omega)
    rw [this]; omega
  have hnp := no_pairs (w := s) fun j hj e => by
    have := (isAl_iff (g s j)).1 (h4 j hj)
    omega
  have := good_of (w := s) (kd := 1) (n := 0) (by
    unfold oneAt
    rw [hnp, if_neg (by rw [hd]; simp), if_pos hl, hsp, if_neg (by omega)]) (by omega) (by unfold blankc; omega) (by omega)
  exact ⟨this.1, this.2.1⟩
end Go.Proofs.YtpolbdakhfcilaaGreatDoor.B
