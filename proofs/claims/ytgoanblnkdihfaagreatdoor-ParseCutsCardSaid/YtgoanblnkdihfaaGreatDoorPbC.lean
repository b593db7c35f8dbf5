/-
  parse: a text that is cut behind a word: the plain law, and ParseCuts walked.
-/
import Derived.Test.YtgoanblnkdihfaaGreatDoorPaSW
import Derived.Test.YtgoanblnkdihfaaGreatDoorPaXh
import Derived.Test.YtgoanblnkdihfaaGreatDoorScQW
import Derived.Test.YtgoanblnkdihfaaGreatDoorBL
import Derived.Test.YtgoanblnkdihfaaGreatDoorScP
import Derived.Test.YtgoanblnkdihfaaGreatDoorEngO
set_option maxRecDepth 100000
set_option linter.unusedVariables false
set_option linter.unusedSimpArgs false
namespace Go.Proofs.YtgoanblnkdihfaaGreatDoor.B
open Go Go.Proofs Go.Proofs.YtgoanblnkdihfaaGreatDoorEng Go.RowKit

/-- neither more terms nor deeper -/
def Les (s t : Tm) : Prop := tsize s ≤ tsize t ∧ tdepth s ≤ tdepth t
def Lesl (l m : List Tm) : Prop := lsize l ≤ lsize m ∧ ldepth l ≤ ldepth m
theorem Les.refl (t : Tm) : Les t t := ⟨Nat.le_refl _, Nat.le_refl _⟩
theorem Les.trans {a b c : Tm} (h : Les a b) (k : Les b c) : Les a c := ⟨Nat.le_trans h.1 k.1, Nat.le_trans h.2 k.2⟩
theorem Lesl.mk {a b c a' b' c' : Int} {l m : List Tm} (h : Lesl l m) : Les (.mk a b c l) (.mk a' b' c' m) := by
  have h1 := h.1
  have h2 := h.2
  unfold Les
  simp only [tsize, tdepth]
  omega
theorem Lesl.cons {s t : Tm} {l m : List Tm} (h : Les s t) (k : Lesl l m) : Lesl (s :: l) (t :: m) := by
  have h1 := h.1
  have h2 := h.2
  have h3 := k.1
  have h4 := k.2
  unfold Lesl
  simp only [lsize, ldepth]
  omega
theorem Lesl.nil (m : List Tm) : Lesl [] m := ⟨Nat.zero_le _, Nat.zero_le _⟩
theorem Lesl.refl (m : List Tm) : Lesl m m := ⟨Nat.le_refl _, Nat.le_refl _⟩
theorem Lesl.app {l m : List Tm} (h : Lesl l m) : ∀ a : List Tm, Lesl (a ++ l) (a ++ m)
  | [] => h
  | x :: a => Lesl.cons (Les.refl x) (Lesl.app h a)
theorem tpos (t : Tm) : 1 ≤ tsize t ∧ 1 ≤ tdepth t := by
  cases t with
  | mk a b c ks => simp only [tsize, tdepth]; omega
theorem row_les {k : Rw} : ∀ {l m : List Tm}, Lesl l m → l.length ≤ m.length → Les (mkRow k l) (mkRow k m)
  | [], m, _, _ => by
    have := tpos (mkRow k m)
    unfold Les
    show tsize (.mk _ 0 0 []) ≤ _ ∧ tdepth (.mk _ 0 0 []) ≤ _
    simp only [tsize, tdepth, lsize, ldepth]
    omega
  | [s], [], _, h => by simp at h
  | [s], [t], h, _ => by
    have h1 := h.1
    have h2 := h.2
    simp only [lsize, ldepth] at h1 h2
    show Les s t
    unfold Les
    omega
  | [s], t :: u :: m, h, _ => by
    have h1 := h.1
    have h2 := h.2
    simp only [lsize, ldepth] at h1 h2
    show Les s (.mk _ 0 0 (t :: u :: m))
    unfold Les
    simp only [tsize, tdepth, lsize, ldepth]
    omega
  | a :: b :: l, [], _, h => by simp at h
  | a :: b :: l, [t], _, h => by simp at h
  | a :: b :: l, t :: u :: m, h, _ => Lesl.mk h
theorem rest_acc (ws : List Wd) (k : Rw) : ∀ (f : Nat) (acc : List Tm) (i : Nat) (t : Tm) (j : Nat), pa ws f (.rest k acc) i = .ok t j → ∃ l, t = mkRow k (acc ++ l) := by
  intro f
  induction f with
  | zero => intro acc i t j h; cases h
  | succ f ih =>
    intro acc i t j h
    rw [pa] at h
    split at h
    · obtain ⟨t1, j1, _, h2⟩ := next_ok_inv h
      obtain ⟨l, e⟩ := ih _ _ _ _ h2
      exact ⟨t1 :: l, by rw [e]; simp⟩
    · injection h with h1 h2
      exact ⟨[], by rw [← h1]; simp⟩
theorem stars_acc (ws : List Wd) : ∀ (f : Nat) (t0 : Tm) (i : Nat) (t : Tm) (j : Nat), pa ws f (.stars t0) i = .ok t j → Les t0 t := by
  intro f
  induction f with
  | zero => intro t0 i t j h; cases h
  | succ f ih =>
    intro t0 i t j h
    rw [pa] at h
    split at h
    · refine Les.trans ?_ (ih _ _ _ _ h)
      unfold Les
      simp only [tsize, tdepth, lsize, ldepth]
      omega
    · injection h with h1 h2
      rw [← h1]
      exact Les.refl _
/-- words that are the same up to a place, where the second ones end -/
structure CutW (ws ws' : List Wd) (c : Nat) : Prop where
  same : ∀ i, i < c → ws'[i]? = ws[i]?
  stop : ∃ x : Wd, ws'[c]? = some x ∧ x.kind = 0 ∧ x.txt = []
theorem CutW.isW {ws ws' : List Wd} {c i : Nat} (h : CutW ws ws' c) (hi : i < c) (k : Nat) (txt : List UInt8) : isW ws' i k txt = isW ws i k txt := by
  unfold B.isW
  rw [h.same i hi]
theorem CutW.noW {ws ws' : List Wd} {c : Nat} (h : CutW ws ws' c) {k : Nat} (hk : k ≠ 0) (txt : List UInt8) : B.isW ws' c k txt = false := by
  obtain ⟨x, h1, h2, _⟩ := h.stop
  rw [isW_at h1, h2]
  exact decide_eq_false fun hh => hk hh.1.symm
def CutR (c : Nat) (t : Tm) (j : Nat) (r : Pr) : Prop := (j ≤ c ∧ r = .ok t j) ∨ (c < j ∧ (r = .bad c ∨ ∃ s, r = .ok s c ∧ Les s t))
theorem CutR.next {c : Nat} {t1 t : Tm} {j1 j : Nat} {r : Pr} {K : Tm → Nat → Pr} (h : CutR c t1 j1 r) (hj : j1 ≤ j) (h1 : j1 ≤ c → CutR c t j (K t1 j1)) (h2 : c < j1 → ∀ s, Les s t1 → CutR c t j (K s c)) : CutR c t j (r.next K) := by
  rcases h with ⟨h3, rfl⟩ | ⟨h3, rfl | ⟨s, rfl, hs⟩⟩
  · exact h1 h3
  · exact .inr ⟨by omega, .inl rfl⟩
  · exact h2 h3 s hs
theorem CutR.bad {c : Nat} {t : Tm} {j : Nat} (h : c < j) : CutR c t j (.bad c) := .inr ⟨h, .inl rfl⟩
theorem CutR.part {c : Nat} {t s : Tm} {j : Nat} (h : c < j) (hs : Les s t) : CutR c t j (.ok s c) := .inr ⟨h, .inr ⟨s, rfl, hs⟩⟩
theorem close_cut {ws ws' : List Wd} {c : Nat} (h : CutW ws ws' c) {t1 t : Tm} {j1 j : Nat} {r : Pr} (hr : CutR c t1 j1 r) (hc : closeS ws t1 j1 = .ok t j) : CutR c t j (r.next fun t j => closeS ws' t j) := by
  obtain ⟨hw, rfl, rfl⟩ := closeS_ok hc
  refine hr.next (by omega) (fun hle => ?_) (fun hlt s hs => ?_)
  · unfold closeS
    rcases Nat.lt_or_ge j1 c with h' | h'
    · rw [if_pos (by rw [h.isW h']; exact hw)]
      exact .inl ⟨by omega, rfl⟩
    · obtain rfl : j1 = c := by omega
      rw [if_neg (by rw [h.noW (by decide)]; simp)]
      exact CutR.bad (by omega)
  · unfold closeS
    rw [if_neg (by rw [h.noW (by decide)]; simp)]
    exact CutR.bad (by omega)
theorem pair_cut {ws ws' : List Wd} {c : Nat} (h : CutW ws ws' c) {op : Nat} {sg : List UInt8} {i j : Nat} {t : Tm} (hp : pairS ws op sg i = .ok t j) (hi : i < c) : CutR c t j (pairS ws' op sg i) := by
  obtain ⟨x, y, f, h1, h2, h3, h4, h5, h6, h7, rfl, rfl⟩ := pairS_ok hp
  have h1' : ws'[i]? = some x := by rw [h.same i hi]; exact h1
  rcases Nat.lt_or_ge (i + 1) c with h8 | h8
  · rcases Nat.lt_or_ge (i + 2) c with h9 | h9
    · rw [pairS_mk h1' h2 h3 h4 (by rw [h.isW h8]; exact h5) (by rw [h.same _ h9]; exact h6) h7]
      exact .inl ⟨by omega, rfl⟩
    · obtain rfl : c = i + 2 := by omega
      obtain ⟨z, z1, z2, _⟩ := h.stop
      unfold pairS
      rw [h1']
      dsimp only
      rw [h2]
      dsimp only
      rw [if_pos ⟨h3, h4⟩, if_pos (by rw [h.isW h8]; exact h5), z1]
      dsimp only
      rw [if_neg (by omega)]
      exact CutR.bad (by omega)
  · obtain rfl : c = i + 1 := by omega
    unfold pairS
    rw [h1']
    dsimp only
    rw [h2]
    dsimp only
    rw [if_pos ⟨h3, h4⟩, if_neg (by rw [h.noW (by decide)]; simp)]
    exact CutR.bad (by omega)
theorem pair_end {ws ws' : List Wd} {c : Nat} (h : CutW ws ws' c) (op : Nat) (sg : List UInt8) : pairS ws' op sg c = .bad c := by
  obtain ⟨z, z1, z2, z3⟩ := h.stop
  unfold pairS
  rw [z1]
  dsimp only
  rw [z3, show keyOf [] = none from by decide]
theorem pa_cut {ws ws' : List Wd} {c : Nat} (h : CutW ws ws' c) : ∀ (f : Nat) (lv : Lv) (i : Nat) (t : Tm) (j : Nat), pa ws f lv i = .ok t j → i ≤ c → CutR c t j (pa ws' f lv i) := by
  intro f
  induction f with
  | zero => intro lv i t j hp; cases hp
  | succ f ih =>
    have hstop : ∀ {k : Rw} {acc acc' : List Tm} {i' j' : Nat} {t' : Tm}, pa ws f (.rest k acc') i' = .ok t' j' → pa ws' f (.rest k acc) c = .ok (mkRow k acc) c := by
      intro k acc acc' i' j' t' hh
      cases f with
      | zero => cases hh
      | succ f => rw [pa, if_neg (by rw [h.noW (by decide)]; simp)]
    have hstop2 : ∀ {t0 t0' : Tm} {i' j' : Nat} {t' : Tm}, pa ws f (.stars t0') i' = .ok t' j' → pa ws' f (.stars t0) c = .ok t0 c := by
      intro t0 t0' i' j' t' hh
      cases f with
      | zero => cases hh
      | succ f => rw [pa, if_neg (by rw [h.noW (by decide)]; simp)]
    intro lv i t j hp hi
    cases lv with
    | row k =>
      rw [pa] at hp ⊢
      obtain ⟨t1, j1, h1, h2⟩ := next_ok_inv hp
      have g1 := pa_le_ok ws _ _ _ _ _ h1
      have g2 := pa_le_ok ws _ _ _ _ _ h2
      refine (ih _ _ _ _ h1 hi).next g2 (fun hle => ih _ _ _ _ h2 hle) (fun hlt s hs => ?_)
      rw [hstop h2]
      obtain ⟨l, rfl⟩ := rest_acc ws k _ _ _ _ _ h2
      exact CutR.part (by omega) (row_les (Lesl.cons hs (Lesl.nil _)) (by simp))
    | rest k acc =>
      rw [pa] at hp ⊢
      by_cases hw : isW ws i 3 k.sign = true
      · rw [if_pos hw] at hp
        obtain ⟨t1, j1, h1, h2⟩ := next_ok_inv hp
        have g1 := pa_le_ok ws _ _ _ _ _ h1
        have g2 := pa_le_ok ws _ _ _ _ _ h2
        obtain ⟨l, hl⟩ := rest_acc ws k _ _ _ _ _ h2
        rcases Nat.lt_or_ge i c with hlt | hge
        · rw [if_pos (by rw [h.isW hlt]; exact hw)]
          refine (ih _ _ _ _ h1 (by omega)).next g2 (fun hle => ih _ _ _ _ h2 hle) (fun hlt s hs => ?_)
          rw [hstop h2, hl]
          refine CutR.part (by omega) (row_les ?_ (by simp))
          rw [List.append_assoc]
          exact (Lesl.cons hs (Lesl.nil _)).app acc
        · obtain rfl : i = c := by omega
          rw [if_neg (by rw [h.noW (by decide)]; simp), hl]
          refine CutR.part (by omega) (row_les ?_ (by simp))
          have := (Lesl.nil ([t1] ++ l)).app acc
          rwa [List.append_nil, ← List.append_assoc] at this
      · rw [if_neg hw] at hp
        injection hp with h1 h2
        subst h1; subst h2
        rw [if_neg]
        · exact .inl ⟨hi, rfl⟩
        · rcases Nat.lt_or_ge i c with hlt | hge
          · rw [h.isW hlt]; exact hw
          · obtain rfl : i = c := by omega
            rw [h.noW (by decide)]; simp
    | star =>
      rw [pa] at hp ⊢
      obtain ⟨t1, j1, h1, h2⟩ := next_ok_inv hp
      have g1 := pa_le_ok ws _ _ _ _ _ h1
      have g2 := pa_le_ok ws _ _ _ _ _ h2
      refine (ih _ _ _ _ h1 hi).next g2 (fun hle => ih _ _ _ _ h2 hle) (fun hlt s hs => ?_)
      rw [hstop2 h2]
      exact CutR.part (by omega) (hs.trans (stars_acc ws _ _ _ _ _ h2))
    | stars t0 =>
      rw [pa] at hp ⊢
      by_cases hw : isW ws i 3 [42] = true
      · rw [if_pos hw] at hp
        have g2 := pa_le_ok ws _ _ _ _ _ hp
        have hs := stars_acc ws _ _ _ _ _ hp
        rcases Nat.lt_or_ge i c with hlt | hge
        · rw [if_pos (by rw [h.isW hlt]; exact hw)]
          exact ih _ _ _ _ hp (by omega)
        · obtain rfl : i = c := by omega
          rw [if_neg (by rw [h.noW (by decide)]; simp)]
          refine CutR.part (by omega) (Les.trans ?_ hs)
          unfold Les
          simp only [tsize, tdepth, lsize, ldepth]
          omega
      · rw [if_neg hw] at hp
        injection hp with h1 h2
        subst h1; subst h2
        rw [if_neg]
        · exact .inl ⟨hi, rfl⟩
        · rcases Nat.lt_or_ge i c with hlt | hge
          · rw [h.isW hlt]; exact hw
          · obtain rfl : i = c := by omega
            rw [h.noW (by decide)]; simp
    | not =>
      have hij := pa_lt ws (.inl rfl) hp
      rcases Nat.lt_or_ge i c with hlt | hge
      · have hW := fun k txt => h.isW hlt k txt
        rw [pa] at hp ⊢
        rw [hW, hW, hW, hW]
        by_cases q1 : isW ws i 3 [33] = true
        · rw [if_pos q1] at hp ⊢
          obtain ⟨t1, j1, h1, h2⟩ := next_ok_inv hp
          injection h2 with h3 h4
          subst h3; subst h4
          exact (ih _ _ _ _ h1 (by omega)).next (Nat.le_refl _) (fun hle => .inl ⟨hle, rfl⟩) (fun hlt s hs => CutR.part hlt (Lesl.mk (Lesl.cons hs (Lesl.nil _))))
        rw [if_neg q1] at hp ⊢
        by_cases q2 : isW ws i 1 [116, 114, 117, 101] = true
        · rw [if_pos q2] at hp ⊢
          injection hp with h3 h4
          subst h3; subst h4
          exact .inl ⟨by omega, rfl⟩
        rw [if_neg q2] at hp ⊢
        by_cases q3 : isW ws i 1 [102, 97, 108, 115, 101] = true
        · rw [if_pos q3] at hp ⊢
          injection hp with h3 h4
          subst h3; subst h4
          exact .inl ⟨by omega, rfl⟩
        rw [if_neg q3] at hp ⊢
        by_cases q4 : isW ws i 3 [40] = true
        · rw [if_pos q4] at hp ⊢
          obtain ⟨t1, j1, h1, h2⟩ := next_ok_inv hp
          exact close_cut h (ih _ _ _ _ h1 (by omega)) h2
        rw [if_neg q4] at hp ⊢
        exact pair_cut h hp hlt
      · obtain rfl : i = c := by omega
        rw [pa, h.noW (by decide), h.noW (by decide), h.noW (by decide), h.noW (by decide), if_neg (by simp), if_neg (by simp), if_neg (by simp), if_neg (by simp), pair_end h]
        exact CutR.bad hij
    | atom =>
      have hij := pa_lt ws (.inr rfl) hp
      rcases Nat.lt_or_ge i c with hlt | hge
      · have hW := fun k txt => h.isW hlt k txt
        rw [pa] at hp ⊢
        rw [hW, hW, hW, hW, hW]
        by_cases q1 : isW ws i 1 [102, 105, 108, 116, 101, 114] = true
        · rw [if_pos q1] at hp ⊢
          obtain ⟨t1, j1, h1, h2⟩ := next_ok_inv hp
          injection h2 with h3 h4
          subst h3; subst h4
          exact (ih _ _ _ _ h1 (by omega)).next (Nat.le_refl _) (fun hle => .inl ⟨hle, rfl⟩) (fun hlt s hs => CutR.part hlt (Lesl.mk (Lesl.cons hs (Lesl.nil _))))
        rw [if_neg q1] at hp ⊢
        by_cases q2 : isW ws i 1 [105, 100] = true
        · rw [if_pos q2] at hp ⊢
          injection hp with h3 h4
          subst h3; subst h4
          exact .inl ⟨by omega, rfl⟩
        rw [if_neg q2] at hp ⊢
        by_cases q3 : isW ws i 1 [100, 114, 111, 112] = true
        · rw [if_pos q3] at hp ⊢
          injection hp with h3 h4
          subst h3; subst h4
          exact .inl ⟨by omega, rfl⟩
        rw [if_neg q3] at hp ⊢
        by_cases q4 : isW ws i 3 [40] = true
        · rw [if_pos q4] at hp ⊢
          obtain ⟨t1, j1, h1, h2⟩ := next_ok_inv hp
          exact close_cut h (ih _ _ _ _ h1 (by omega)) h2
        rw [if_neg q4] at hp ⊢
        by_cases q5 : isW ws i 1 [105, 102] = true
        · rw [if_pos q5] at hp ⊢
          obtain ⟨t1, j1, h1, h2⟩ := next_ok_inv hp
          split at h2
          · rename_i w1
            have g0 := pa_le_ok ws _ _ _ _ _ h1
            obtain ⟨t2, j2, h3, h4⟩ := next_ok_inv h2
            split at h4
            · rename_i w2
              obtain ⟨t3, j3, h5, h6⟩ := next_ok_inv h4
              injection h6 with h7 h8
              subst h7; subst h8
              have g1 := pa_le_ok ws _ _ _ _ _ h3
              have g2 := pa_le_ok ws _ _ _ _ _ h5
              refine (ih _ _ _ _ h1 (by omega)).next (by omega) (fun hle => ?_) (fun hlt s hs => ?_)
              · rcases Nat.lt_or_ge j1 c with hj | hj
                · skip
                  rw [if_pos (by rw [h.isW hj]; exact w1)]
                  refine (ih _ _ _ _ h3 (by omega)).next (by omega) (fun hle => ?_) (fun hlt s hs => ?_)
                  · rcases Nat.lt_or_ge j2 c with hj | hj
                    · skip
                      rw [if_pos (by rw [h.isW hj]; exact w2)]
                      exact (ih _ _ _ _ h5 (by omega)).next (Nat.le_refl _) (fun hle => .inl ⟨hle, rfl⟩) (fun hlt s hs => CutR.part hlt (Lesl.mk (Lesl.cons (Les.refl _) (Lesl.cons (Lesl.mk (Lesl.cons (Les.refl _) (Lesl.cons hs (Lesl.nil _)))) (Lesl.nil _)))))
                    · obtain rfl : j2 = c := by omega
                      skip
                      rw [if_neg (by rw [h.noW (by decide)]; simp)]
                      exact CutR.bad (by omega)
                  · skip
                    rw [if_neg (by rw [h.noW (by decide)]; simp)]
                    exact CutR.bad (by omega)
                · obtain rfl : j1 = c := by omega
                  skip
                  rw [if_neg (by rw [h.noW (by decide)]; simp)]
                  exact CutR.bad (by omega)
              · skip
                rw [if_neg (by rw [h.noW (by decide)]; simp)]
                exact CutR.bad (by omega)
            · cases h4
          · cases h2
        rw [if_neg q5] at hp ⊢
        exact pair_cut h hp hlt
      · obtain rfl : i = c := by omega
        rw [pa, h.noW (by decide), h.noW (by decide), h.noW (by decide), h.noW (by decide), h.noW (by decide), if_neg (by simp), if_neg (by simp), if_neg (by simp), if_neg (by simp), if_neg (by simp), pair_end h]
        exact CutR.bad hij
theorem Pa.cut {ws ws' : List Wd} {c : Nat} (h : CutW ws ws' c) {lv : Lv} {i j : Nat} {t : Tm} (hp : Pa ws lv i (.ok t j)) (hi : i ≤ c) : ∃ r, Pa ws' lv i r ∧ CutR c t j r := by
  obtain ⟨_, f, hf⟩ := hp
  have := pa_cut h f lv i t j hf hi
  refine ⟨_, ⟨?_, f, rfl⟩, this⟩
  rcases this with ⟨_, e⟩ | ⟨_, e | ⟨s, e, _⟩⟩ <;> rw [e] <;> simp
theorem scan_rise (u : List UInt8) (k : Nat) (acc0 ws : List Wd) (h : scan u k acc0 = .inl ws) : ∃ r, ws = acc0 ++ r ∧ ∀ x ∈ r, k ≤ x.pos ∧ x.pos < u.length := by
  by_cases hlt : sk u false k < u.length
  · have hsk := (sk_le u false k).1
    cases ho : oneAt u (sk u false k) with
    | bad e j => rw [scan_bad hlt ho] at h; cases h
    | ok kd j m =>
      rw [scan_go hlt ho] at h
      have hle := one_le ho hlt
      obtain ⟨r, e, hr⟩ := scan_rise u j _ ws h
      refine ⟨⟨kd, cut u (sk u false k) j, m, sk u false k⟩ :: r, by rw [e]; simp, fun x hx => ?_⟩
      rcases List.mem_cons.1 hx with rfl | hx
      · exact ⟨hsk, hlt⟩
      · have := hr x hx
        exact ⟨by omega, this.2⟩
  · rw [scan_end hlt] at h
    injection h with h
    exact ⟨[], by simp [h], by simp⟩
termination_by u.length - k
decreasing_by
  have := (sk_le u false k).1
  omega
/-- a text that ends where a word of another one begins: the words ahead of it -/
theorem scan_cut {a u : List UInt8} (hi : In a u 0) (k : Nat) (hk : k ≤ a.length) (acc0 r : List Wd) (i : Nat) (x : Wd) (h : scan u k acc0 = .inl (acc0 ++ r)) (hx : r[i]? = some x) (hp : x.pos = a.length) (acc : List Wd) : scan a k acc = .inl (acc ++ r.take i) := by
  have hul := hi.1
  have step : ∀ {j kd m : Nat}, sk u false k < u.length → oneAt u (sk u false k) = .ok kd j m → ∃ r', r = ⟨kd, cut u (sk u false k) j, m, sk u false k⟩ :: r' ∧ scan u j (acc0 ++ [⟨kd, cut u (sk u false k) j, m, sk u false k⟩]) = .inl ((acc0 ++ [⟨kd, cut u (sk u false k) j, m, sk u false k⟩]) ++ r') ∧ ∀ y ∈ r', j ≤ y.pos := by
    intro j kd m hlu ho
    rw [scan_go hlu ho] at h
    obtain ⟨r', e', hr'⟩ := scan_rise u j _ _ h
    refine ⟨r', ?_, by rw [h, e'], fun y hy => (hr' y hy).1⟩
    rw [List.append_assoc] at e'
    exact List.append_cancel_left e'
  by_cases hlt : sk a false k < a.length
  · have hsu : sk u false k = sk a false k := by
      have := (sk_in hi _ false k rfl hk).1 hlt
      rwa [Nat.zero_add, Nat.zero_add] at this
    have hlu : sk u false k < u.length := by rw [hsu]; omega
    cases ho : oneAt u (sk u false k) with
    | bad e j => rw [scan_bad hlu ho] at h; cases h
    | ok kd j m =>
      have hle := one_le ho hlu
      obtain ⟨r', rfl, h', hr'⟩ := step hlu ho
      cases i with
      | zero =>
        simp only [List.getElem?_cons_zero] at hx
        injection hx with hx
        subst hx
        have hp : sk u false k = a.length := hp
        omega
      | succ i =>
        have hx' : r'[i]? = some x := by simpa using hx
        have hj : j ≤ a.length := by
          have := hr' x (List.mem_of_getElem? hx')
          omega
        rw [hsu] at ho hle
        have ha : Ag u (sk a false k) a (sk a false k) (a.length - sk a false k) := ⟨⟨by omega, by omega, fun i h' => by
          have := hi.2 (sk a false k + i) (by omega)
          rw [Nat.zero_add] at this
          exact this.symm⟩, .inl (by omega)⟩
        have hjj : sk a false k + (j - sk a false k) = j := by omega
        have ho' := one_same ha (L := j - sk a false k) (by omega) (by omega) (by rw [hjj]; exact ho)
        rw [hjj] at ho'
        have hcut : cut u (sk a false k) j = cut a (sk a false k) j := by
          have := cut_same ha.1.symm _ 0 (j - sk a false k) rfl (by omega)
          rw [Nat.add_zero, hjj] at this
          exact this
        rw [scan_go hlt ho', scan_cut hi j hj _ r' i x h' hx' hp]
        simp [hsu, hcut]
  · obtain ⟨r2, h2⟩ := (sk_in hi _ false k rfl hk).2 hlt
    rw [Nat.zero_add, Nat.zero_add] at h2
    rw [scan_end hlt]
    have hge : a.length ≤ sk u false k := by rw [h2]; exact (sk_le u r2 _).1
    cases i with
    | zero => simp
    | succ i =>
      exfalso
      by_cases hlu : sk u false k < u.length
      · cases ho : oneAt u (sk u false k) with
        | bad e j => rw [scan_bad hlu ho] at h; cases h
        | ok kd j m =>
          have hle := one_le ho hlu
          obtain ⟨r', rfl, h', hr'⟩ := step hlu ho
          have hx' : r'[i]? = some x := by simpa using hx
          have := hr' x (List.mem_of_getElem? hx')
          omega
      · rw [scan_end hlu] at h
        injection h with h
        have : r = [] := by
          have h := congrArg List.length h
          rw [List.length_append] at h
          exact List.length_eq_zero_iff.1 (by omega)
        rw [this] at hx
        simp at hx
termination_by a.length - k
decreasing_by
  have := (sk_le a false k).1
  omega
theorem qs_cut {ws ws' : List Wd} {c : Nat} (h : CutW ws ws' c) {i e : Nat} {l : List (List UInt8 × Tm)} {b : Bool} (hq : QsR ws i l e b) (hb : b = true) (hi : i ≤ c) (he : c < e) : ∃ l' b', QsR ws' i l' c b' ∧ (b' = true → Lesl (l'.map (·.2)) (l.map (·.2))) := by
  induction hq with
  | stop _ => omega
  | bad _ _ => cases hb
  | @go i j e x t l b h1 h2 h3 h4 ih =>
    have hend : QsR ws' c [] c true := .stop (h.noW (by decide) _)
    rcases Nat.lt_or_ge i c with hic | hic
    · have h1' : isW ws' i 1 cntW = true := by rw [h.isW hic]; exact h1
      unfold Qa at h3
      rw [h2] at h3
      dsimp only at h3
      by_cases hn : isName x = true
      · rw [if_pos hn] at h3
        by_cases hs : isW ws (i + 1 + 1) 3 [61] = true
        · rw [if_pos hs] at h3
          rcases Nat.lt_or_ge (i + 1) c with hi1 | hi1
          · have h2' : ws'[i + 1]? = some x := by rw [h.same _ hi1]; exact h2
            rcases Nat.lt_or_ge (i + 1 + 1) c with hi2 | hi2
            · have hs' : isW ws' (i + 1 + 1) 3 [61] = true := by rw [h.isW hi2]; exact hs
              obtain ⟨r, hr, hc⟩ := h3.cut h (show i + 1 + 2 ≤ c by omega)
              have hqa : Qa ws' (i + 1) r := by
                unfold Qa
                rw [h2']
                dsimp only
                rw [if_pos hn, if_pos hs']
                exact hr
              rcases hc with ⟨hjc, rfl⟩ | ⟨hjc, rfl | ⟨s, rfl, hst⟩⟩
              · obtain ⟨l', b', k1, k2⟩ := ih hb hjc he
                exact ⟨(x.txt, t) :: l', b', .go h1' h2' hqa k1, fun hb' => Lesl.cons (Les.refl _) (k2 hb')⟩
              · exact ⟨[], false, .bad h1' hqa, by simp⟩
              · exact ⟨[(x.txt, s)], true, .go h1' h2' hqa hend, fun _ => Lesl.cons hst (Lesl.nil _)⟩
            · obtain rfl : c = i + 1 + 1 := by omega
              refine ⟨[], false, .bad h1' ?_, by simp⟩
              unfold Qa
              rw [h2']
              dsimp only
              rw [if_pos hn, if_neg (by rw [h.noW (by decide)]; simp)]
          · obtain rfl : c = i + 1 := by omega
            refine ⟨[], false, .bad h1' ?_, by simp⟩
            obtain ⟨z, z1, z2, z3⟩ := h.stop
            unfold Qa
            rw [z1]
            dsimp only
            rw [if_neg (by unfold isName; rw [z2]; simp)]
        · rw [if_neg hs] at h3
          cases h3
      · rw [if_neg hn] at h3
        cases h3
    · obtain rfl : i = c := by omega
      exact ⟨[], true, hend, fun _ => Lesl.nil _⟩
theorem small_les {l m : List Tm} (h : Lesl l m) (hm : smallS m = true) : smallS l = true := by
  unfold smallS at hm ⊢
  have h1 := h.1
  have h2 := h.2
  have := of_decide_eq_true hm
  exact decide_eq_true (by omega)
/-- a text that is taken, cut where a word of it begins: taken, or bad at its end -/
theorem cut_is {t : List UInt8} {main : Tm} {qs : List (List UInt8 × Tm)} (h : PolP t (.ok main qs)) {ws : List Wd} (hw : allR t = .inl ws) {i : Nat} {x : Wd} (hx : ws[i]? = some x) : x.pos ≤ t.length ∧ ∃ o, PolP (t.take x.pos) o ∧ ((∃ m q, o = .ok m q) ∨ o = .fault 160 x.pos []) := by
  have hP := h
  unfold PolP at h
  rw [hw] at h
  dsimp only at h
  obtain ⟨hl, r, rfl, _, hg, hs⟩ := allR_good hw
  rcases Nat.lt_or_ge i r.length with hir | hir
  · rw [List.getElem?_append_left hir] at hx
    obtain ⟨r0, e0, hr0⟩ := scan_rise t 0 [] _ hs
    rw [List.nil_append] at e0
    subst e0
    have hpos := (hr0 x (List.mem_of_getElem? hx)).2
    refine ⟨by omega, ?_⟩
    have hlen : (t.take x.pos).length = x.pos := by rw [List.length_take]; omega
    have hin : In (t.take x.pos) t 0 := by
      refine ⟨by rw [hlen]; omega, fun n hn => ?_⟩
      rw [Nat.zero_add]
      have : g (t.take x.pos ++ t.drop x.pos) n = g (t.take x.pos) n := g_left hn
      rwa [List.take_append_drop] at this
    have hsc := scan_cut hin 0 (Nat.zero_le _) [] r i x (by rw [List.nil_append]; exact hs) hx hlen.symm []
    rw [List.nil_append] at hsc
    have hall := allR_of (u := t.take x.pos) (by omega) hsc
    rw [hlen] at hall
    have htl : (r.take i).length = i := by rw [List.length_take]; omega
    have hE : (r.take i ++ [(⟨0, [], 0, x.pos⟩ : Wd)])[i]? = some ⟨0, [], 0, x.pos⟩ := by
      rw [List.getElem?_append_right (by omega), htl, Nat.sub_self]; rfl
    have hcw : CutW (r ++ [⟨0, [], 0, t.length⟩]) (r.take i ++ [⟨0, [], 0, x.pos⟩]) i := by
      refine ⟨fun n hn => ?_, _, hE, rfl, rfl⟩
      rw [List.getElem?_append_left (by omega), List.getElem?_append_left (by omega), List.getElem?_take_of_lt hn]
    have give : ∀ o, FileP (r.take i ++ [⟨0, [], 0, x.pos⟩]) o → PolP (t.take x.pos) o := fun o ho => by
      unfold PolP
      rw [hall]
      exact ho
    rcases h with ⟨j, y, _, _, h3⟩ | ⟨t', j, l, e, b, y, h1, h2, h3, h4⟩
    · cases h3
    · unfold endS at h4
      by_cases hb : b = true ∧ y.kind = 0
      · rw [if_pos hb] at h4
        by_cases hsm : smallS (t' :: l.map (·.2)) = true
        · have hie : i < e := by
            rcases Nat.lt_or_ge e r.length with h' | h'
            · rw [List.getElem?_append_left h'] at h3
              exact absurd hb.2 (hg y (List.mem_of_getElem? h3)).2
            · omega
          obtain ⟨r1, hr1, hc⟩ := h1.cut hcw (Nat.zero_le _)
          rcases hc with ⟨hji, rfl⟩ | ⟨hji, rfl | ⟨s, rfl, hst⟩⟩
          · obtain ⟨l', b', k1, k2⟩ := qs_cut hcw h2 hb.1 hji hie
            refine ⟨_, give _ (.inr ⟨t', j, l', i, b', _, hr1, k1, hE, rfl⟩), ?_⟩
            unfold endS
            cases b' with
            | true => rw [if_pos ⟨rfl, rfl⟩, if_pos (small_les (Lesl.cons (Les.refl _) (k2 rfl)) hsm)]; exact .inl ⟨_, _, rfl⟩
            | false => rw [if_neg (by simp)]; exact .inr rfl
          · exact ⟨_, give _ (.inl ⟨i, _, hr1, hE, rfl⟩), .inr rfl⟩
          · refine ⟨_, give _ (.inr ⟨s, i, [], i, true, _, hr1, .stop (hcw.noW (by decide) _), hE, rfl⟩), ?_⟩
            unfold endS
            have h1s : smallS (s :: ([] : List (List UInt8 × Tm)).map (·.2)) = true := small_les (Lesl.cons hst (Lesl.nil _)) hsm
            rw [if_pos ⟨rfl, rfl⟩, if_pos h1s]
            exact .inl ⟨_, _, rfl⟩
        · rw [if_neg hsm] at h4; cases h4
      · rw [if_neg hb] at h4; cases h4
  · have hi : i = r.length := by
      have := (List.getElem?_eq_some_iff.1 hx).1
      simp at this; omega
    subst hi
    rw [List.getElem?_append_right (Nat.le_refl _), Nat.sub_self] at hx
    injection hx with hx
    subst hx
    refine ⟨Nat.le_refl _, _, ?_, .inl ⟨main, qs, rfl⟩⟩
    rw [List.take_length]
    exact hP
theorem mod_at (cut : Int) {n : Nat} (h0 : 0 < n) (hn : n ≤ 70000) : ∃ i : Nat, Int.tmod (IntKind.wrap .i64 (Int.tmod cut (n : Int) + (n : Int))) (n : Int) = (i : Int) ∧ i < n := by
  have h1 : -(n : Int) < Int.tmod cut (n : Int) ∧ Int.tmod cut (n : Int) < n := by
    have ha := Int.lt_tmod_of_pos cut (show (0 : Int) < n by omega)
    have hb := Int.tmod_lt_of_pos cut (show (0 : Int) < n by omega)
    exact ⟨ha, hb⟩
  rw [i64w _ (by omega) (by omega)]
  have h2 := Int.tmod_lt_of_pos (Int.tmod cut (n : Int) + (n : Int)) (show (0 : Int) < n by omega)
  have h3 : 0 ≤ Int.tmod (Int.tmod cut (n : Int) + (n : Int)) (n : Int) := Int.tmod_nonneg _ (by omega)
  exact ⟨(Int.tmod (Int.tmod cut (n : Int) + (n : Int)) (n : Int)).toNat, by omega, by omega⟩
abbrev z3 : List Value := [.int .i64 0, .int .i64 0, .string { data := #[] }]
abbrev z4 : List Value := [.int .i8 0, .string { data := #[] }, .int .u64 0, .int .i64 0]
theorem ParseCuts_w (s : ByteArray) (cut : Int) (w : World) (hL : Libs w) : Calls Tryz.prog 3 #[.string s, .int .i64 cut] w (endW (fun v w' => v = .bool true ∧ Chg NoS w w') (fun _ _ => False)) := by
  obtain ⟨t, rfl⟩ : ∃ t, s = bs t := ⟨_, (bs_data s).symm⟩
  refine F3_calls _ _ ?_
  delta F3
  refine ⟨fun _ w' => w = w' ∧ t.length ≤ 4096, ?_, ?_⟩
  · rintro _ _ ⟨rfl, hlt⟩ _
    refine Calls.then (Policy_ok w t hL.1) ?_
    rintro v w1 ⟨o1, ho1, hr1⟩
    obtain ⟨c1, u1, q1, n1, k1, e1, rfl, i1⟩ := hr1.inf
    refine ⟨_, rfl, _, _, rfl, _, rfl, _, _, rfl, _, rfl, _, _, rfl, _, rfl, _, _, rfl, _, rfl, _, _, rfl, _, _, _, rfl, _, _, rfl, _, _, _, rfl, rfl, _, _, rfl, rfl, ?_⟩
    refine (put4 (w := w1) (vs := vs5 u1 q1 n1 k1) (cs := zs5) (blk_alloc w1 _) (chg_alloc w1 _ _) (Nat.le_refl _) rfl (by simp [oneC]) fun w2 b2 c2 _ z2 => ?_ : setsW _ _ _ _ _)
    have c02 := c1.trans c2
    refine Calls.then (rAll_ok w2 t) ?_
    rintro v w3 ⟨c3, h3⟩
    cases hall : allR t with
    | inr x =>
      rw [hall] at h3
      obtain rfl := h3
      have hf : o1 = .fault x.1 x.2.1 x.2.2 := by
        unfold PolP at ho1
        rw [hall] at ho1
        exact ho1
      subst hf
      obtain ⟨p, rfl, _⟩ := i1
      refine ⟨_, rfl, _, _, rfl, _, _, _, rfl, _, _, rfl, _, rfl, _, _, rfl, _, rfl, _, _, rfl, _, rfl, _, _, rfl, _, rfl, rfl, rfl, ?_⟩
      refine (put4 (w := w3) (vs := [.int .i64 (x.1 : Int), .int .i64 (x.2.1 : Int), .string (bs x.2.2)]) (cs := z3) (blk_alloc w3 _) (chg_alloc w3 _ _) (Nat.le_refl _) rfl (by simp [oneC]) fun w4 b4 c4 _ _ => ?_ : setsW _ _ _ _ _)
      refine ⟨fun _ _ => False, fun _ _ h => h.elim, .inr ⟨_, _, rfl⟩, ?_⟩
      rw [if_neg (by simp [isNilI])]
      exact wake2 hL ((c02.trans c3).trans c4)
    | inl ws =>
      rw [hall] at h3
      obtain ⟨a, n, c, rfl, how, rfl⟩ := h3
      refine ⟨_, rfl, _, _, rfl, _, _, _, rfl, _, _, rfl, _, rfl, _, _, rfl, _, rfl, _, _, rfl, _, rfl, _, _, rfl, _, rfl, rfl, rfl, ?_⟩
      refine (put4 (w := w3) (vs := z3) (cs := z3) (blk_alloc w3 _) (chg_alloc w3 _ _) (Nat.le_refl _) rfl (by simp [oneC]) fun w4 b4 c4 _ _ => ?_ : setsW _ _ _ _ _)
      have c24 := c3.trans c4
      have c04 := c02.trans c24
      obtain ⟨hl0, ra, rfl, hral, _, _⟩ := allR_good hall
      refine ⟨fun _ w' => w4 = w' ∧ ∃ m q, o1 = .ok m q, ?_, i1.shape, ?_⟩
      · rintro _ _ ⟨rfl, m, q, rfl⟩ _
        obtain ⟨i, hi, hin⟩ := mod_at cut (n := (ra ++ [(⟨0, [], 0, t.length⟩ : Wd)]).length) (by simp) (by simp; omega)
        rw [hi]
        obtain ⟨x, hx⟩ : ∃ x, (ra ++ [(⟨0, [], 0, t.length⟩ : Wd)])[i]? = some x := ⟨_, List.getElem?_eq_getElem hin⟩
        obtain ⟨A, rfl, g0, g1, g2, g3⟩ := row_word how hx
        obtain ⟨hpos, o, hoP, hoo⟩ := cut_is ho1 hall hx
        refine ⟨by simp; omega, by simp; omega, by omega, by omega, some_w ⟨_, cell_keep g0 c4, _, cell_keep g1 c4, _, cell_keep g2 c4, _, cell_keep g3 c4, ?_⟩⟩
        refine (put4 (w := w4) (vs := [.int .i8 (x.kind : Int), .string (bs x.txt), .int .u64 (x.num : Int), .int .i64 (x.pos : Int)]) (cs := z4) (blk_alloc w4 _) (chg_alloc w4 _ _) (Nat.le_refl _) rfl (by simp [oneC]) fun w5 b5 c5 _ _ => ?_ : setsW _ _ _ _ _)
        refine ⟨_, get_blk b5 3 _ rfl, by omega, by rw [bs_size]; omega, ?_⟩
        have c05 := c04.trans c5
        have htk : (bs t).extract 0 ((x.pos : Int).toNat) = bs (t.take x.pos) := by rw [bs_extract]; simp
        rw [htk]
        refine Calls.then (Policy_is (hL.chg c05).1 hoP) ?_
        intro v w6 hr
        obtain ⟨c6, u6, q6, n6, k6, e6, rfl, i6⟩ := hr.inf
        refine ⟨_, rfl, _, _, rfl, _, rfl, _, _, rfl, _, rfl, _, _, rfl, _, rfl, _, _, rfl, _, rfl, _, _, rfl, _, _, _, rfl, _, _, rfl, _, _, _, rfl, rfl, _, _, rfl, rfl, ?_⟩
        refine (put4 (w := w6) (vs := vs5 u6 q6 n6 k6) (cs := zs5) (blk_alloc w6 _) (chg_alloc w6 _ _) (Nat.le_refl _) rfl (by simp [oneC]) fun w7 b7 c7 _ _ => ?_ : setsW _ _ _ _ _)
        have c57 := c6.trans c7
        have c07 := c05.trans c57
        rcases hoo with ⟨m', q', rfl⟩ | rfl
        · obtain ⟨rfl, _⟩ := i6
          refine Calls.then (Fault_nil w7) ?_
          rintro v w8 ⟨rfl, c8⟩
          refine ⟨_, rfl, _, _, rfl, _, rfl, _, _, rfl, _, rfl, _, _, rfl, _, rfl, _, _, rfl, _, rfl, rfl, _, _, rfl, _, rfl, rfl, ?_⟩
          refine (put4 (w := w8) (vs := z3) (cs := z3) (blk_alloc w8 _) (chg_alloc w8 _ _) (Nat.le_refl _) rfl (by simp [oneC]) fun w9 b9 c9 _ _ => ?_ : setsW _ _ _ _ _)
          refine ⟨.inl rfl, ?_⟩
          rw [if_neg (by simp [isNilI])]
          exact wake2 hL ((c07.trans c8).trans c9)
        · obtain ⟨p, rfl, hp⟩ := i6
          refine Calls.then (Fault_ok (c7.blk hp fun x => x) (by decide) (hL.chg c07)) ?_
          rintro v w8 ⟨rfl, c8⟩
          refine ⟨_, rfl, _, _, rfl, _, rfl, _, _, rfl, _, rfl, _, _, rfl, _, rfl, _, _, rfl, _, rfl, rfl, _, _, rfl, _, rfl, rfl, ?_⟩
          refine (put4 (w := w8) (vs := [.int .i64 160, .int .i64 (x.pos : Int), .string (bs [])]) (cs := z3) (blk_alloc w8 _) (chg_alloc w8 _ _) (Nat.le_refl _) rfl (by simp [oneC]) fun w9 b9 c9 _ _ => ?_ : setsW _ _ _ _ _)
          refine ⟨.inr ⟨_, _, rfl⟩, ?_⟩
          rw [if_pos (by rfl)]
          refine ⟨_, get_blk b9 0 _ rfl, ?_⟩
          rw [if_pos (by rfl)]
          refine ⟨_, get_blk b9 1 _ rfl, _, get_blk ((((c6.trans c7).trans c8).trans c9).blk b5 fun x => x) 3 _ rfl, ?_⟩
          rw [if_pos (by simp)]
          refine ⟨_, get_blk b9 2 _ rfl, ?_⟩
          rw [if_pos (by show ((bs []).toList == (bs []).toList) = true; simp)]
          exact wake2 hL ((c07.trans c8).trans c9)
      · by_cases h1 : (!isNilI e1) = false
        · rw [if_pos h1]
          refine ⟨_, get_blk b4 0 _ rfl, ?_⟩
          rw [if_pos (by rfl), if_neg (by simp; omega)]
          refine ⟨(), trivial, rfl, ?_⟩
          cases o1 with
          | fault _ _ _ => obtain ⟨z, rfl, _⟩ := i1; simp [isNilI] at h1
          | ok m q => exact ⟨m, q, rfl⟩
        · rw [if_neg h1]
          exact wake2 hL c04
  · by_cases ha : decide (((bs t).size : Int) > 4096) = false
    · rw [if_pos ha]
      by_cases hb : (((bs t).size : Int) == 0) = true
      · rw [if_pos hb]
        exact wake2 hL (Chg.refl NoS w)
      · rw [if_neg hb]
        simp only [bs_size] at ha
        exact ⟨(), trivial, rfl, by simp at ha; omega⟩
    · rw [if_neg ha]
      exact wake2 hL (Chg.refl NoS w)
theorem ParseCuts_walk (s0 : ByteArray) (a1 : Int) (w : World) (i0 : Is maxLen Tryz.prog w 12 9 [.string s0]) (i1 : Is maxLen Tryz.prog w 12 3 [.int .i64 a1]) (hL : Libs w) :
    Calls Tryz.prog 3 #[.string s0, .int .i64 a1] w (endW (fun v w' => v = .bool true ∧ Chg NoS w w') (fun _ _ => False)) := ParseCuts_w s0 a1 w hL
end Go.Proofs.YtgoanblnkdihfaaGreatDoor.B
