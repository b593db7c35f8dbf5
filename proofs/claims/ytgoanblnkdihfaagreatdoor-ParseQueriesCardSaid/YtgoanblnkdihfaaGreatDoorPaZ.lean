/-
  parse: queries: the plain law.
-/
import Derived.Test.YtgoanblnkdihfaaGreatDoorPaSW
set_option maxRecDepth 100000
set_option linter.unusedVariables false
set_option linter.unusedSimpArgs false
namespace Go.Proofs.YtgoanblnkdihfaaGreatDoor.B
open Go Go.Proofs Go.Proofs.YtgoanblnkdihfaaGreatDoorEng Go.RowKit

/-- the end of a text, scanned alone -/
theorem tail_inv {a u : List UInt8} {p : Nat} (hi : In a u p) (he : p + a.length = u.length) (k : Nat) (hk : k ≤ a.length) (acc0 ws : List Wd) (h : scan u (p + k) acc0 = .inl ws) : ∃ r, ws = acc0 ++ r.map (sh p) ∧ ∀ acc, scan a k acc = .inl (acc ++ r) := by
  by_cases hlt : sk a false k < a.length
  · have hsu : sk u false (p + k) = p + sk a false k := (sk_in hi _ false k rfl hk).1 hlt
    have hsk := (sk_le a false k).1
    have hlu : sk u false (p + k) < u.length := by rw [hsu]; omega
    cases ho : oneAt u (sk u false (p + k)) with
    | bad e j => rw [scan_bad hlu ho] at h; cases h
    | ok kd j m =>
      rw [scan_go hlu ho] at h
      have hle := one_le ho hlu
      have h1 := hle.2.2.1
      have h2 := hle.2.2.2
      rw [hsu] at ho h1 h
      have ha : Ag u (p + sk a false k) a (sk a false k) (a.length - sk a false k) := ⟨⟨by omega, by omega, fun i h' => by rw [Nat.add_assoc]; exact (hi.2 _ (by omega)).symm⟩, .inl (by omega)⟩
      have ho' := one_same ha (L := j - (p + sk a false k)) (by omega) (by omega) (by rw [show p + sk a false k + (j - (p + sk a false k)) = j by omega]; exact ho)
      have hcut : cut u (p + sk a false k) j = cut a (sk a false k) (j - p) := by
        have := cut_same ha.1.symm _ 0 (j - (p + sk a false k)) rfl (by omega)
        rw [Nat.add_zero, Nat.add_zero, show p + sk a false k + (j - (p + sk a false k)) = j by omega, show sk a false k + (j - (p + sk a false k)) = j - p by omega] at this
        exact this
      rw [show sk a false k + (j - (p + sk a false k)) = j - p by omega] at ho'
      have hj : p + (j - p) = j := by omega
      obtain ⟨r, e, hr⟩ := tail_inv hi he (j - p) (by omega) _ ws (by rw [hj]; exact h)
      refine ⟨⟨kd, cut a (sk a false k) (j - p), m, sk a false k⟩ :: r, by rw [e, hcut]; simp [sh, Nat.add_comm], fun acc => ?_⟩
      rw [scan_go hlt ho', hr]
      simp
  · obtain ⟨r2, h2⟩ := (sk_in hi _ false k rfl hk).2 hlt
    rw [scan_end (by rw [h2, sk_end (by omega)]; omega)] at h
    injection h with h
    exact ⟨[], by simp [h], fun acc => by rw [scan_end hlt]; simp⟩
termination_by a.length - k
decreasing_by
  have := (sk_le a false k).1
  omega
/-- as Alike, from a place on -/
def AlikeF (ws ws' : List Wd) (d lo e : Nat) : Prop := ∀ i, lo ≤ i → i < e → ∃ x y, ws[i]? = some x ∧ ws'[i + d]? = some y ∧ SameW x y
theorem AlikeF.isW {ws ws' : List Wd} {d lo e i : Nat} (h : AlikeF ws ws' d lo e) (hl : lo ≤ i) (hi : i < e) (k : Nat) (txt : List UInt8) : isW ws' (i + d) k txt = isW ws i k txt := by
  obtain ⟨x, y, h1, h2, h3, h4, _⟩ := h i hl hi
  unfold B.isW
  rw [h1, h2]
  simp [tk, h3, h4]
theorem pairS_moveF {ws ws' : List Wd} {d lo e : Nat} (h : AlikeF ws ws' d lo e) {op : Nat} {sg : List UInt8} {i j : Nat} {t : Tm} (hp : pairS ws op sg i = .ok t j) (hj : j ≤ e) (hlo : lo ≤ i) : pairS ws' op sg (i + d) = .ok t (j + d) := by
  obtain ⟨x, y, f, h1, h2, h3, h4, h5, h6, h7, rfl, rfl⟩ := pairS_ok hp
  obtain ⟨x1, x', k1, k2, k3, k4, _⟩ := h i (by omega) (by omega)
  rw [h1] at k1
  injection k1 with k1
  subst k1
  obtain ⟨y1, y', l1, l2, l3, _, l5⟩ := h (i + 2) (by omega) (by omega)
  rw [h6] at l1
  injection l1 with l1
  subst l1
  have := pairS_mk (ws := ws') (op := op) (sg := sg) (i := i + d) k2 (by rw [← k4]; exact h2) (by rw [← k3]; exact h3) h4 (by rw [show i + d + 1 = i + 1 + d by omega, h.isW (by omega) (by omega)]; exact h5) (by rw [show i + d + 2 = i + 2 + d by omega]; exact l2) (by rw [← l3]; exact h7)
  rw [this, ← l5, show i + d + 3 = i + 3 + d by omega]
theorem pa_moveF {ws ws' : List Wd} {d lo e : Nat} (h : AlikeF ws ws' d lo e) (hn : NoSign ws' (e + d)) : ∀ (f : Nat) (lv : Lv) (i : Nat) (t : Tm) (j : Nat), pa ws f lv i = .ok t j → j ≤ e → lo ≤ i → pa ws' f lv (i + d) = .ok t (j + d) := by
  intro f
  induction f with
  | zero => intro lv i t j hp; cases hp
  | succ f ih =>
    have nosign : ∀ k : Rw, isW ws' (e + d) 3 k.sign = false := fun k => by
      cases k
      · exact hn.1
      · exact hn.2.1
      · exact hn.2.2.1
      · exact hn.2.2.2.1
    intro lv i t j hp hj hlo
    cases lv with
    | row k =>
      rw [pa] at hp ⊢
      obtain ⟨t1, j1, h1, h2⟩ := next_ok_inv hp
      have := pa_le_ok ws _ _ _ _ _ h1
      have := pa_le_ok ws _ _ _ _ _ h2
      rw [ih _ _ _ _ h1 (by omega) (by omega)]
      exact ih _ _ _ _ h2 hj (by omega)
    | rest k acc =>
      rw [pa] at hp ⊢
      by_cases hw : isW ws i 3 k.sign = true
      · rw [if_pos hw] at hp
        obtain ⟨t1, j1, h1, h2⟩ := next_ok_inv hp
        have g1 := pa_le_ok ws _ _ _ _ _ h1
        have g2 := pa_le_ok ws _ _ _ _ _ h2
        rw [if_pos (by rw [h.isW (by omega) (by omega)]; exact hw), show i + d + 1 = i + 1 + d by omega, ih _ _ _ _ h1 (by omega) (by omega)]
        exact ih _ _ _ _ h2 hj (by omega)
      · rw [if_neg hw] at hp
        injection hp with h1 h2
        subst h1; subst h2
        rw [if_neg]
        rcases Nat.lt_or_ge i e with hlt | hge
        · rw [h.isW (by omega) hlt]; exact hw
        · have : i = e := by omega
          subst this
          rw [nosign k]
          simp
    | star =>
      rw [pa] at hp ⊢
      obtain ⟨t1, j1, h1, h2⟩ := next_ok_inv hp
      have := pa_le_ok ws _ _ _ _ _ h1
      have := pa_le_ok ws _ _ _ _ _ h2
      rw [ih _ _ _ _ h1 (by omega) (by omega)]
      exact ih _ _ _ _ h2 hj (by omega)
    | stars t0 =>
      rw [pa] at hp ⊢
      by_cases hw : isW ws i 3 [42] = true
      · rw [if_pos hw] at hp
        have g2 := pa_le_ok ws _ _ _ _ _ hp
        rw [if_pos (by rw [h.isW (by omega) (by omega)]; exact hw), show i + d + 1 = i + 1 + d by omega]
        exact ih _ _ _ _ hp hj (by omega)
      · rw [if_neg hw] at hp
        injection hp with h1 h2
        subst h1; subst h2
        rw [if_neg]
        rcases Nat.lt_or_ge i e with hlt | hge
        · rw [h.isW (by omega) hlt]; exact hw
        · have : i = e := by omega
          subst this
          rw [hn.2.2.2.2]
          simp
    | not =>
      have hij := pa_lt ws (.inl rfl) hp
      have hW := fun k txt => h.isW (i := i) (by omega) (by omega) k txt
      rw [pa] at hp ⊢
      rw [hW, hW, hW, hW]
      by_cases q1 : isW ws i 3 [33] = true
      · rw [if_pos q1] at hp ⊢
        obtain ⟨t1, j1, h1, h2⟩ := next_ok_inv hp
        injection h2 with h3 h4
        subst h3; subst h4
        rw [show i + d + 1 = i + 1 + d by omega, ih _ _ _ _ h1 hj (by omega)]
        rfl
      rw [if_neg q1] at hp ⊢
      by_cases q2 : isW ws i 1 [116, 114, 117, 101] = true
      · rw [if_pos q2] at hp ⊢
        injection hp with h3 h4
        subst h3; subst h4
        rw [show i + d + 1 = i + 1 + d by omega]
      rw [if_neg q2] at hp ⊢
      by_cases q3 : isW ws i 1 [102, 97, 108, 115, 101] = true
      · rw [if_pos q3] at hp ⊢
        injection hp with h3 h4
        subst h3; subst h4
        rw [show i + d + 1 = i + 1 + d by omega]
      rw [if_neg q3] at hp ⊢
      by_cases q4 : isW ws i 3 [40] = true
      · rw [if_pos q4] at hp ⊢
        obtain ⟨t1, j1, h1, h2⟩ := next_ok_inv hp
        have g0 := pa_le_ok ws _ _ _ _ _ h1
        obtain ⟨hw, rfl, rfl⟩ := closeS_ok h2
        rw [show i + d + 1 = i + 1 + d by omega, ih _ _ _ _ h1 (by omega) (by omega)]
        show closeS ws' _ _ = _
        unfold closeS
        rw [if_pos (by rw [h.isW (by omega) (by omega)]; exact hw), show j1 + d + 1 = j1 + 1 + d by omega]
      rw [if_neg q4] at hp ⊢
      exact pairS_moveF h hp hj hlo
    | atom =>
      have hij := pa_lt ws (.inr rfl) hp
      have hW := fun k txt => h.isW (i := i) (by omega) (by omega) k txt
      rw [pa] at hp ⊢
      rw [hW, hW, hW, hW, hW]
      by_cases q1 : isW ws i 1 [102, 105, 108, 116, 101, 114] = true
      · rw [if_pos q1] at hp ⊢
        obtain ⟨t1, j1, h1, h2⟩ := next_ok_inv hp
        injection h2 with h3 h4
        subst h3; subst h4
        rw [show i + d + 1 = i + 1 + d by omega, ih _ _ _ _ h1 hj (by omega)]
        rfl
      rw [if_neg q1] at hp ⊢
      by_cases q2 : isW ws i 1 [105, 100] = true
      · rw [if_pos q2] at hp ⊢
        injection hp with h3 h4
        subst h3; subst h4
        rw [show i + d + 1 = i + 1 + d by omega]
      rw [if_neg q2] at hp ⊢
      by_cases q3 : isW ws i 1 [100, 114, 111, 112] = true
      · rw [if_pos q3] at hp ⊢
        injection hp with h3 h4
        subst h3; subst h4
        rw [show i + d + 1 = i + 1 + d by omega]
      rw [if_neg q3] at hp ⊢
      by_cases q4 : isW ws i 3 [40] = true
      · rw [if_pos q4] at hp ⊢
        obtain ⟨t1, j1, h1, h2⟩ := next_ok_inv hp
        have g0 := pa_le_ok ws _ _ _ _ _ h1
        obtain ⟨hw, rfl, rfl⟩ := closeS_ok h2
        rw [show i + d + 1 = i + 1 + d by omega, ih _ _ _ _ h1 (by omega) (by omega)]
        show closeS ws' _ _ = _
        unfold closeS
        rw [if_pos (by rw [h.isW (by omega) (by omega)]; exact hw), show j1 + d + 1 = j1 + 1 + d by omega]
      rw [if_neg q4] at hp ⊢
      by_cases q5 : isW ws i 1 [105, 102] = true
      · rw [if_pos q5] at hp ⊢
        obtain ⟨t1, j1, h1, h2⟩ := next_ok_inv hp
        split at h2
        · rename_i w1
          have g0 := pa_le_ok ws _ _ _ _ _ h1
          obtain ⟨t2, j2, h3, h4⟩ := next_ok_inv h2
          split at h4
          · rename_i w2
            obtain ⟨t3, j3, h5, h6⟩ := next_ok_inv h4
            injection h6 with h7 h8
            subst h7; subst h8
            have g1 := pa_le_ok ws _ _ _ _ _ h3
            have g2 := pa_le_ok ws _ _ _ _ _ h5
            rw [show i + d + 1 = i + 1 + d by omega, ih _ _ _ _ h1 (by omega) (by omega)]
            show (if _ then _ else _) = _
            rw [if_pos (by rw [h.isW (by omega) (by omega)]; exact w1), show j1 + d + 1 = j1 + 1 + d by omega, ih _ _ _ _ h3 (by omega) (by omega)]
            show (if _ then _ else _) = _
            rw [if_pos (by rw [h.isW (by omega) (by omega)]; exact w2), show j2 + d + 1 = j2 + 1 + d by omega, ih _ _ _ _ h5 (by omega) (by omega)]
            rfl
          · cases h4
        · cases h2
      rw [if_neg q5] at hp ⊢
      exact pairS_moveF h hp hj hlo
theorem Pa.moveF {ws ws' : List Wd} {d lo e : Nat} (h : AlikeF ws ws' d lo e) (hn : NoSign ws' (e + d)) {lv : Lv} {i j : Nat} {t : Tm} (hp : Pa ws lv i (.ok t j)) (hj : j ≤ e) (hlo : lo ≤ i) : Pa ws' lv (i + d) (.ok t (j + d)) := by
  obtain ⟨_, f, hf⟩ := hp
  exact ⟨by simp, f, pa_moveF h hn f lv i t j hf hj hlo⟩
def segQ (nm pr : List UInt8) : List UInt8 := [99, 111, 117, 110, 116, 32] ++ (nm ++ ([32, 61, 32] ++ pr))
def probeQ (nm pr : List UInt8) : List UInt8 := [105, 100, 32] ++ segQ nm pr
/-- a word of letters at the beginning, with a blank behind it -/
theorem first_word {w post : List UInt8} {n : Nat} (hn : w.length = n) (h0 : 0 < n) (ho : oneAt w 0 = .ok 1 n 0) (hg : g w 0 ≠ 10 ∧ ¬ (g w 0 = 32 ∨ g w 0 = 9 ∨ g w 0 = 13) ∧ g w 0 ≠ 35) (acc : List Wd) : scan (w ++ 32 :: post) 0 acc = scan (w ++ 32 :: post) (n + 1) (acc ++ [⟨1, w, 0, 0⟩]) := by
  have hl : n < (w ++ 32 :: post).length := by simp; omega
  have hb : g (w ++ 32 :: post) n = 32 := by rw [← hn, show w.length = w.length + 0 by omega, g_right]; rfl
  have g0 : g (w ++ 32 :: post) 0 = g w 0 := g_left (by omega)
  have hsk : sk (w ++ 32 :: post) false 0 = 0 := sk_stop (by omega) (by rw [g0]; exact hg.1) (by rw [g0]; exact hg.2.1) (by rw [g0]; exact hg.2.2)
  have ha : Ag w 0 (w ++ 32 :: post) 0 n := ⟨⟨by omega, by omega, fun i hi => by rw [Nat.zero_add]; exact g_left (by omega)⟩, .inr (.inl (by rw [Nat.zero_add]; exact hb))⟩
  have ho' := one_same ha (L := n) (by omega) (by omega) (by rw [Nat.zero_add]; exact ho)
  rw [Nat.zero_add] at ho'
  have hc : cut (w ++ 32 :: post) 0 n = w := by
    unfold cut
    rw [List.drop_zero, Nat.sub_zero, ← hn, List.take_left]
  rw [scan_go (by rw [hsk]; omega) (by rw [hsk]; exact ho'), hsk, hc, scan_blank hl hb]
/-- a query's piece of text, and what a probe said of it -/
structure Piece (nm pr : List UInt8) (t : Tm) (rs : List Wd) : Prop where
  sc : scan (segQ nm pr) 0 [] = .inl rs
  cnt : ∃ x, rs[0]? = some x ∧ x.kind = 1 ∧ x.txt = cntW
  name : ∃ x, rs[1]? = some x ∧ x.txt = nm ∧ isName x = true
  qa : ∃ id e : Wd, Qa (id :: (rs.map (sh 3) ++ [e])) 2 (.ok t (rs.length + 1))
  kind : ∀ x ∈ rs, x.kind ≠ 0
theorem id_main (a : Wd) (b : Wd) (rest : List Wd) (ha : a.kind = 1 ∧ a.txt = [105, 100]) (hb : b.kind = 1) : Pa (a :: b :: rest) (.row .pol) 0 (.ok (fil (bareS 1)) 1) := by
  obtain ⟨k, tx, n, q⟩ := a
  obtain ⟨k2, tx2, n2, q2⟩ := b
  obtain ⟨rfl, rfl⟩ := ha
  obtain rfl := hb
  refine Pa.ends (x := ⟨1, tx2, n2, q2⟩) ?_ rfl (by simp)
  exact ⟨by simp, 60, by kernel_rfl⟩
theorem piece_of {nm pr : List UInt8} {m t : Tm} (h : PolP (probeQ nm pr) (.ok m [(nm, t)])) : ∃ rs, Piece nm pr t rs := by
  unfold PolP at h
  cases hall : allR (probeQ nm pr) with
  | inr x => rw [hall] at h; cases h
  | inl ws =>
    rw [hall] at h
    obtain ⟨hl, ra, rfl, _, hg, hs⟩ := allR_good hall
    have s1 : scan (probeQ nm pr) 0 [] = scan (probeQ nm pr) 3 [⟨1, [105, 100], 0, 0⟩] := first_word (w := [105, 100]) (n := 2) (post := segQ nm pr) rfl (by decide) (by kernel_rfl) (by decide) []
    rw [s1] at hs
    have hin : In (segQ nm pr) (probeQ nm pr) 3 := by have := in_mid [105, 100, 32] (segQ nm pr) []; simpa [probeQ] using this
    obtain ⟨rs, rfl, hr⟩ := tail_inv hin (by simp [probeQ]; omega) 0 (by omega) _ _ hs
    have hsc := hr []
    rw [List.nil_append] at hsc
    have s2 : scan (segQ nm pr) 0 [] = scan (segQ nm pr) 6 [⟨1, cntW, 0, 0⟩] := first_word (w := cntW) (n := 5) (post := nm ++ ([32, 61, 32] ++ pr)) rfl (by decide) (by kernel_rfl) (by decide) []
    obtain ⟨r, hrs, _, _⟩ := scan_good _ _ _ _ (s2.symm.trans hsc)
    subst hrs
    have hk : ∀ x ∈ ([⟨1, cntW, 0, 0⟩] ++ r : List Wd), x.kind ≠ 0 := fun x hx => by
      have := (hg (sh 3 x) (List.mem_append_right _ (List.mem_map_of_mem hx))).2
      exact this
    rcases h with ⟨j, x, _, _, h3⟩ | ⟨t', j, l, e, b, x, h1, h2, h3, h4⟩
    · cases h3
    · have hm := id_main ⟨1, [105, 100], 0, 0⟩ ⟨1, cntW, 0, 3⟩ (r.map (sh 3) ++ [⟨0, [], 0, (probeQ nm pr).length⟩]) ⟨rfl, rfl⟩ rfl
      have hd := Pa.det h1 hm
      injection hd with e1 e2
      subst e1; subst e2
      unfold endS at h4
      by_cases hb : b = true ∧ x.kind = 0
      · rw [if_pos hb] at h4
        by_cases hsm : smallS (fil (bareS 1) :: l.map (·.2)) = true
        · rw [if_pos hsm] at h4
          injection h4 with h5 h6
          subst h6
          cases h2 with
          | @go _ j2 _ y _ _ _ k1 k2 k3 k4 =>
            have he : e = j2 := by
              cases k4 with
              | stop _ => rfl
              | bad _ _ => exact absurd hb.1 (by simp)
            subst he
            have hej : e = r.length + 2 := by
              rcases Nat.lt_or_ge e (r.length + 2) with h' | h'
              · rw [List.getElem?_append_left (by simp; omega)] at h3
                exact absurd hb.2 (hg x (List.mem_of_getElem? h3)).2
              · rcases Nat.eq_or_lt_of_le h' with h7 | h7
                · exact h7.symm
                · rw [List.getElem?_eq_none (by simp; omega)] at h3
                  cases h3
            subst hej
            refine ⟨_, ⟨hsc, ⟨_, rfl, rfl, rfl⟩, ?_, ⟨_, _, k3⟩, hk⟩⟩
            have k3' := k3
            unfold Qa at k3'
            rw [k2] at k3'
            dsimp only at k3'
            have hnm : isName y = true := by
              by_cases hn : isName y = true
              · exact hn
              · rw [if_neg hn] at k3'; cases k3'
            cases hr0 : r[0]? with
            | none =>
              have : r = [] := by cases r with | nil => rfl | cons _ _ => simp at hr0
              subst this
              have k2' : some (⟨0, [], 0, (probeQ y.txt pr).length⟩ : Wd) = some y := k2
              injection k2' with k2'
              rw [← k2'] at hnm
              simp [isName] at hnm
            | some z =>
              have k2' : (r.map (sh 3) ++ [⟨0, [], 0, (probeQ y.txt pr).length⟩])[0]? = some y := k2
              rw [List.getElem?_append_left (by have := (List.getElem?_eq_some_iff.1 hr0).1; simpa using this), List.getElem?_map, hr0] at k2'
              injection k2' with k2'
              subst k2'
              exact ⟨z, hr0, rfl, hnm⟩
        · rw [if_neg hsm] at h4; cases h4
      · rw [if_neg hb] at h4; cases h4
/-- pieces: name, predicate, its term, its words -/
structure Pc where
  nm : List UInt8
  pr : List UInt8
  t : Tm
  rs : List Wd
def Pc.ok (x : Pc) : Prop := Piece x.nm x.pr x.t x.rs
def tailQ : List Pc → List UInt8
  | [] => []
  | x :: l => 10 :: (segQ x.nm x.pr ++ tailQ l)
def wordsQ : List Pc → Nat → List Wd
  | [], _ => []
  | x :: l, p => x.rs.map (sh p) ++ wordsQ l (p + (segQ x.nm x.pr).length + 1)
theorem scanQ : ∀ (l : List Pc), (∀ x ∈ l, x.ok) → ∀ (pre a : List UInt8) (ra acc : List Wd), scan a 0 [] = .inl ra → scan (pre ++ (a ++ tailQ l)) pre.length acc = .inl (acc ++ (ra.map (sh pre.length) ++ wordsQ l (pre.length + a.length + 1)))
  | [], _, pre, a, ra, acc, h => by
    have := seg_end pre a h acc
    simpa [tailQ, wordsQ] using this
  | x :: l, hl, pre, a, ra, acc, h => by
    show scan (pre ++ (a ++ 10 :: (segQ x.nm x.pr ++ tailQ l))) pre.length acc = _
    rw [seg_nl pre a (segQ x.nm x.pr ++ tailQ l) h acc]
    have e : pre ++ (a ++ 10 :: (segQ x.nm x.pr ++ tailQ l)) = (pre ++ a ++ [10]) ++ (segQ x.nm x.pr ++ tailQ l) := by simp
    have hlen : (pre ++ a ++ [10]).length = pre.length + a.length + 1 := by simp; omega
    rw [e, ← hlen, scanQ l (fun y hy => hl y (List.mem_cons_of_mem _ hy)) _ (segQ x.nm x.pr) x.rs _ (hl x (List.mem_cons_self ..)).sc, hlen]
    simp [wordsQ]
/-- what stands behind: the end, or a query's first word -/
theorem wordsQ_head (l : List Pc) (hl : ∀ x ∈ l, x.ok) (p : Nat) (e0 : Wd) (h0 : e0.kind = 0) : ∃ y, (wordsQ l p ++ [e0])[0]? = some y ∧ y.kind ≠ 3 := by
  cases l with
  | nil => exact ⟨e0, rfl, by omega⟩
  | cons x l =>
    obtain ⟨y, hy, hk, _⟩ := (hl x (List.mem_cons_self ..)).cnt
    refine ⟨sh p y, ?_, by show y.kind ≠ 3; omega⟩
    have hlt : 0 < x.rs.length := (List.getElem?_eq_some_iff.1 hy).1
    show ((x.rs.map (sh p) ++ wordsQ l _) ++ [e0])[0]? = _
    rw [List.append_assoc, List.getElem?_append_left (by simpa using hlt), List.getElem?_map, hy]
    rfl
theorem noSign_at {ws : List Wd} {i : Nat} {x : Wd} (h : ws[i]? = some x) (hk : x.kind ≠ 3) : NoSign ws i :=
  ⟨isW_sign h (.inl hk), isW_sign h (.inl hk), isW_sign h (.inl hk), isW_sign h (.inl hk), isW_sign h (.inl hk)⟩
theorem qsQ (e0 : Wd) (h0 : e0.kind = 0) : ∀ (l : List Pc), (∀ x ∈ l, x.ok) → ∀ (B : List Wd) (p : Nat), 0 < B.length → QsR (B ++ (wordsQ l p ++ [e0])) B.length (l.map fun x => (x.nm, x.t)) (B.length + (wordsQ l p).length) true
  | [], _, B, p, _ => by
    refine .stop ?_
    have : (B ++ (wordsQ [] p ++ [e0]))[B.length]? = some e0 := by simp [wordsQ]
    rw [isW_at this]
    exact decide_eq_false fun hh => by omega
  | x :: l, hl, B, p, hB => by
    have hx := hl x (List.mem_cons_self ..)
    have hl' : ∀ y ∈ l, y.ok := fun y hy => hl y (List.mem_cons_of_mem _ hy)
    generalize hp' : p + (segQ x.nm x.pr).length + 1 = p'
    have hws : B ++ (wordsQ (x :: l) p ++ [e0]) = B ++ (x.rs.map (sh p) ++ (wordsQ l p' ++ [e0])) := by rw [← hp']; simp [wordsQ]
    have ih := qsQ e0 h0 l hl' (B ++ x.rs.map (sh p)) p' (by simp; omega)
    have hws2 : B ++ x.rs.map (sh p) ++ (wordsQ l p' ++ [e0]) = B ++ (x.rs.map (sh p) ++ (wordsQ l p' ++ [e0])) := by simp
    have hlen : (B ++ x.rs.map (sh p)).length = B.length + x.rs.length := by simp
    rw [hws2, hlen] at ih
    rw [hws]
    have hst : Stand x.rs (B ++ (x.rs.map (sh p) ++ (wordsQ l p' ++ [e0]))) B.length := stand_mid B x.rs _ p
    obtain ⟨y, hy, hyk, hyt⟩ := hx.cnt
    obtain ⟨z, hz, hzt, hzn⟩ := hx.name
    obtain ⟨y', hy', sy1, sy2, _⟩ := hst 0 y hy
    obtain ⟨z', hz', sz1, sz2, _⟩ := hst 1 z hz
    rw [Nat.zero_add] at hy'
    rw [Nat.add_comm] at hz'
    have hzt' : z'.txt = x.nm := sz2.symm.trans hzt
    obtain ⟨idw, e, hq⟩ := hx.qa
    have hlast : ∃ y, (B ++ (x.rs.map (sh p) ++ (wordsQ l p' ++ [e0])))[x.rs.length + 1 + (B.length - 1)]? = some y ∧ y.kind ≠ 3 := by
      obtain ⟨y, hy, hk⟩ := wordsQ_head l hl' p' e0 h0
      refine ⟨y, ?_, hk⟩
      rw [← hws2, show x.rs.length + 1 + (B.length - 1) = (B ++ x.rs.map (sh p)).length + 0 by rw [hlen]; omega, List.getElem?_append_right (by omega)]
      simpa using hy
    obtain ⟨yl, hyl, hkl⟩ := hlast
    have hal2 : ∀ i, i < x.rs.length → ∃ a b, (idw :: (x.rs.map (sh 3) ++ [e]))[i + 1]? = some a ∧ (B ++ (x.rs.map (sh p) ++ (wordsQ l p' ++ [e0])))[i + B.length]? = some b ∧ SameW a b := fun i hi => by
      obtain ⟨b, hb, s1, s2, s3⟩ := hst i _ (List.getElem?_eq_getElem hi)
      refine ⟨sh 3 x.rs[i], b, ?_, hb, s1, s2, s3⟩
      rw [List.getElem?_cons_succ, List.getElem?_append_left (by simpa using hi), List.getElem?_map, List.getElem?_eq_getElem hi]
      rfl
    have halF : AlikeF (idw :: (x.rs.map (sh 3) ++ [e])) (B ++ (x.rs.map (sh p) ++ (wordsQ l p' ++ [e0]))) (B.length - 1) 1 (x.rs.length + 1) := fun i hlo hi => by
      obtain ⟨a, b, h1, h2, h3⟩ := hal2 (i - 1) (by omega)
      exact ⟨a, b, by rw [show i = i - 1 + 1 by omega]; exact h1, by rw [show i + (B.length - 1) = i - 1 + B.length by omega]; exact h2, h3⟩
    have hrl : 1 < x.rs.length := (List.getElem?_eq_some_iff.1 hz).1
    have hyc : isW (B ++ (x.rs.map (sh p) ++ (wordsQ l p' ++ [e0]))) B.length 1 cntW = true := by
      rw [isW_at hy', ← sy1, ← sy2, hyk, hyt]; simp
    have hqa : Qa (B ++ (x.rs.map (sh p) ++ (wordsQ l p' ++ [e0]))) (B.length + 1) (.ok x.t (B.length + x.rs.length)) := by
      unfold Qa at hq ⊢
      have hz0 : (idw :: (x.rs.map (sh 3) ++ [e]))[2]? = some (sh 3 z) := by
        show (x.rs.map (sh 3) ++ [e])[1]? = _
        rw [List.getElem?_append_left (by simpa using hrl), List.getElem?_map, hz]
        rfl
      rw [hz0] at hq
      rw [hz']
      dsimp only at hq ⊢
      have hn1 : isName (sh 3 z) = true := hzn
      have hn2 : isName z' = true := by
        unfold isName at hzn ⊢
        rw [← sz1, ← sz2]
        exact hzn
      rw [if_pos hn1] at hq
      rw [if_pos hn2]
      by_cases heq : isW (idw :: (x.rs.map (sh 3) ++ [e])) (2 + 1) 3 [61] = true
      · rw [if_pos heq] at hq
        have hle := Pa.le hq
        have hmv := Pa.moveF halF (noSign_at hyl hkl) hq (Nat.le_refl _) (by omega)
        have heq2 := halF.isW (i := 2 + 1) (by omega) (by omega) 3 [61]
        rw [heq, show 2 + 1 + (B.length - 1) = B.length + 1 + 1 by omega] at heq2
        rw [if_pos heq2]
        rw [show 2 + 2 + (B.length - 1) = B.length + 1 + 2 by omega, show x.rs.length + 1 + (B.length - 1) = B.length + x.rs.length by omega] at hmv
        exact hmv
      · rw [if_neg heq] at hq
        cases hq
    have hgo := QsR.go hyc hz' hqa ih
    rw [hzt'] at hgo
    have hl2 : B.length + x.rs.length + (wordsQ l p').length = B.length + (wordsQ (x :: l) p).length := by rw [← hp']; simp [wordsQ]; omega
    rw [hl2] at hgo
    exact hgo
theorem main_nonempty {a : List UInt8} {p : Tm} {ra : List Wd} (h : Pa (ra ++ [⟨0, [], 0, a.length⟩]) (.row .pol) 0 (.ok p ra.length)) : 0 < ra.length := by
  cases ra with
  | cons _ _ => simp
  | nil =>
    have : Pa [⟨0, [], 0, a.length⟩] (.row .pol) 0 (.bad 0) := Pa.row_bad (k := .pol) (Pa.row_bad (k := .seq) (Pa.star_bad ⟨by simp, 60, by kernel_rfl⟩))
    have := Pa.det h this
    cases this
def textQ (a : List UInt8) (l : List Pc) : List UInt8 := a ++ tailQ l
/-- the whole text, with its queries -/
theorem queries_is {a : List UInt8} {p : Tm} (h : PolP a (.ok p [])) {l : List Pc} (hl : ∀ x ∈ l, x.ok) (hlen : (textQ a l).length ≤ 65536) :
    PolP (textQ a l) (if smallS (p :: l.map (·.t)) = true then .ok p (l.map fun x => (x.nm, x.t)) else .fault 200 0 []) := by
  obtain ⟨ra, hs, hp, hsm, _, hk⟩ := taken h
  have hsc : scan (textQ a l) 0 [] = .inl (ra ++ wordsQ l (a.length + 1)) := by
    have := scanQ l hl [] a ra [] hs
    simp only [List.nil_append, List.length_nil, Nat.zero_add] at this
    rw [show (textQ a l) = a ++ tailQ l from rfl, this]
    have e : ra.map (sh 0) = ra := by
      conv => rhs; rw [← List.map_id ra]
      exact List.map_congr_left fun x _ => by cases x; simp [sh]
    rw [e]
  unfold PolP
  rw [allR_of hlen hsc]
  show FileP _ _
  generalize he0 : (⟨0, [], 0, (textQ a l).length⟩ : Wd) = e0
  have h0 : e0.kind = 0 := by rw [← he0]
  have hra := main_nonempty hp
  rw [List.append_assoc]
  obtain ⟨y, hy, hyk⟩ := wordsQ_head l hl (a.length + 1) e0 h0
  have hy' : (ra ++ (wordsQ l (a.length + 1) ++ [e0]))[ra.length + 0]? = some y := by rw [List.getElem?_append_right (by omega)]; simpa using hy
  have hmain : Pa (ra ++ (wordsQ l (a.length + 1) ++ [e0])) (.row .pol) 0 (.ok p ra.length) := by
    have hal : Alike (ra ++ [⟨0, [], 0, a.length⟩]) (ra ++ (wordsQ l (a.length + 1) ++ [e0])) 0 ra.length := fun i hi => by
      refine ⟨ra[i], ra[i], ?_, ?_, rfl, rfl, rfl⟩
      · rw [List.getElem?_append_left hi, List.getElem?_eq_getElem hi]
      · show (ra ++ (wordsQ l (a.length + 1) ++ [e0]))[i]? = some ra[i]
        rw [List.getElem?_append_left hi, List.getElem?_eq_getElem hi]
    have := Pa.move hal (noSign_at hy' hyk) hp (Nat.le_refl _)
    simpa using this
  have hq := qsQ e0 h0 l hl ra (a.length + 1) hra
  refine .inr ⟨p, ra.length, _, _, true, e0, hmain, hq, ?_, ?_⟩
  · rw [List.getElem?_append_right (by omega), show ra.length + (wordsQ l (a.length + 1)).length - ra.length = (wordsQ l (a.length + 1)).length by omega, List.getElem?_append_right (by omega)]
    simp
  · unfold endS
    rw [if_pos (show true = true ∧ e0.kind = 0 from ⟨rfl, h0⟩)]
    simp [List.map_map, Function.comp_def]
end Go.Proofs.YtgoanblnkdihfaaGreatDoor.B
