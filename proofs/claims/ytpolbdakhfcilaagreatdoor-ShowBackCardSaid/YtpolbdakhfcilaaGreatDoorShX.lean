/-
  show: what is written is read as it was.
-/
import Derived.Test.YtpolbdakhfcilaaGreatDoorShW
set_option maxRecDepth 100000
set_option linter.unusedVariables false
set_option linter.unusedSimpArgs false
namespace Go.Proofs.YtpolbdakhfcilaaGreatDoor.B
open Go Go.Proofs Go.Proofs.YtpolbdakhfcilaaGreatDoorEng Go.RowKit

theorem brW_good {b : Bool} {l : Ws} {x : List UInt8} (h : x ∈ brW b l) : x ∈ l ∨ Good x := by
  unfold brW at h
  split at h
  · rcases List.mem_cons.1 h with rfl | h
    · exact .inr (const_good _ (by simp))
    · rcases List.mem_append.1 h with h | h
      · exact .inl h
      · rw [List.mem_singleton.1 h]; exact .inr (const_good _ (by simp))
  · exact .inl h
theorem sgn_good {op : Int} {m : Nat} (hop : op = 0 ∨ op = 1 ∨ op = 2 ∨ op = 3 ∨ op = 4 ∨ op = 5 ∨ op = 6 ∨ op = 7 ∨ op = 8 ∨ op = 9 ∨ op = 10) (hc : loK op ≤ m ∧ m ≤ hiK op) (h : 2 ≤ m) : Good (sgn op) := by
  rcases hop with rfl | rfl | rfl | rfl | rfl | rfl | rfl | rfl | rfl | rfl | rfl
  · have : hiK 0 = 0 := rfl; omega
  · have : hiK 1 = 0 := rfl; omega
  · have : hiK 2 = 0 := rfl; omega
  · have : hiK 3 = 1 := rfl; omega
  · exact const_good [38] (by simp)
  · exact const_good [124] (by simp)
  · have : hiK 6 = 1 := rfl; omega
  · have : hiK 7 = 0 := rfl; omega
  · exact const_good [43] (by simp)
  · exact const_good [59] (by simp)
  · have : hiK 10 = 1 := rfl; omega
mutual
theorem wgood : ∀ (t : Tm) (p : Bool), shp p t = true → nnT t → ∀ x ∈ wdT t, Good x
  | .mk op f n ks, p, h, hnn => by
    simp only [nnT] at hnn
    obtain ⟨hop, hnum, hcnt, hk⟩ := ops h
    have hr := rgood (lst op) (sgn op) ks _ hk hnn.2.2
    intro x hx
    rw [wdT] at hx
    split at hx
    · rename_i h4
      unfold leafW at hx
      split at hx
      · rw [List.mem_singleton.1 hx]; exact const_good _ (by simp)
      · split at hx
        · rw [List.mem_singleton.1 hx]; exact const_good _ (by simp)
        · have hgg : Good (H.nam f.toNat) ∧ Good (H.numTxt f.toNat n.toNat) := by
            have h27 : op = 2 ∨ op = 7 := by omega
            unfold numK at hnum
            rw [if_pos h27] at hnum
            obtain ⟨fk, nk, rfl, rfl, hf, hn⟩ := fits_rng hnum hnn.1 hnn.2.1
            exact ⟨(nam_good fk hf).1, (num_good hf (by simpa using hnum)).1⟩
          split at hx
          · simp only [List.mem_cons, List.not_mem_nil, or_false] at hx
            rcases hx with rfl | rfl | rfl
            · exact hgg.1
            · exact const_good _ (by simp)
            · exact hgg.2
          · simp only [List.mem_cons, List.not_mem_nil, or_false] at hx
            rcases hx with rfl | rfl | rfl
            · exact hgg.1
            · exact const_good _ (by simp)
            · exact hgg.2
    · split at hx
      · rw [List.mem_singleton.1 hx]; exact const_good _ (by simp)
      · split at hx
        · rw [List.mem_singleton.1 hx]; exact const_good _ (by simp)
        · rcases List.mem_append.1 hx with hx | hx
          · rcases List.mem_append.1 hx with hx | hx
            · unfold preW at hx
              split at hx
              · rw [List.mem_singleton.1 hx]; exact const_good _ (by simp)
              · split at hx
                · rw [List.mem_singleton.1 hx]; exact const_good _ (by simp)
                · split at hx
                  · rw [List.mem_singleton.1 hx]; exact const_good _ (by simp)
                  · simp at hx
            · exact hr (fun h2 => sgn_good (hop := hop) hcnt h2) x hx
          · unfold postW at hx
            split at hx
            · simp only [List.mem_cons, List.not_mem_nil, or_false] at hx
              rcases hx with rfl | rfl <;> exact const_good _ (by simp)
            · simp at hx
theorem rgood (l : Nat) (sg : List UInt8) : ∀ (ks : List Tm) (p : Bool), shpL p ks = true → nnL ks → (2 ≤ ks.length → Good sg) → ∀ x ∈ rowW l sg ks, Good x
  | [], _, _, _, _ => by simp [rowW]
  | k :: ks, p, h, hn, hs => by
    simp only [nnL] at hn
    simp only [shpL, Bool.and_eq_true] at h
    have h1 := wgood k p h.1 hn.1
    have h2 := tgood l sg ks p h.2 hn.2 (fun hl => hs (by simp; omega))
    intro x hx
    rw [rowW] at hx
    rcases List.mem_append.1 hx with hx | hx
    · rcases brW_good hx with hx | hx
      · exact h1 x hx
      · exact hx
    · exact h2 x hx
theorem tgood (l : Nat) (sg : List UInt8) : ∀ (ks : List Tm) (p : Bool), shpL p ks = true → nnL ks → (1 ≤ ks.length → Good sg) → ∀ x ∈ tlW l sg ks, Good x
  | [], _, _, _, _ => by simp [tlW]
  | k :: ks, p, h, hn, hs => by
    simp only [nnL] at hn
    simp only [shpL, Bool.and_eq_true] at h
    have h1 := wgood k p h.1 hn.1
    have h2 := tgood l sg ks p h.2 hn.2 (fun hl => hs (by simp))
    intro x hx
    rw [tlW] at hx
    rcases List.mem_cons.1 hx with rfl | hx
    · exact hs (by simp)
    · rcases List.mem_append.1 hx with hx | hx
      · rcases brW_good hx with hx | hx
        · exact h1 x hx
        · exact hx
      · exact h2 x hx
end

mutual
theorem bare_size : ∀ t : Tm, tsize (bareT t) = tsize t ∧ tdepth (bareT t) = tdepth t
  | .mk op f n ks => by
    have := bareL_size ks
    simp only [bareT, tsize, tdepth]
    omega
theorem bareL_size : ∀ ks : List Tm, lsize (bareL ks) = lsize ks ∧ ldepth (bareL ks) = ldepth ks
  | [] => ⟨rfl, rfl⟩
  | k :: ks => by
    have h1 := bare_size k
    have h2 := bareL_size ks
    simp only [bareL, lsize, ldepth]
    omega
end
def linesW (main : Tm) (qs : List Qu) : List Ws := wdT main :: qs.map fun q => preQ q ++ wdT q.2
theorem tail_ln : ∀ ls : List Ws, Lib.joinTail [10] (ls.map jn) ++ [10] = 10 :: lnTxt ls
  | [] => rfl
  | l :: ls => by
    have h := tail_ln ls
    have e : Lib.joinTail [10] ((l :: ls).map jn) = [10] ++ jn l ++ Lib.joinTail [10] (ls.map jn) := by simp [Lib.joinTail]
    rw [e, List.append_assoc, h]
    simp [lnTxt]
theorem text_ln (main : Tm) (qs : List Qu) : textT main qs = lnTxt (linesW main qs) := by
  have e : linesT main qs = jn (wdT main) :: (qs.map fun q => preQ q ++ wdT q.2).map jn := by
    unfold linesT
    rw [List.map_map]
    rfl
  unfold textT
  rw [e, Lib.join_cons, List.append_assoc, tail_ln]
  rfl
theorem keyIn_none {txt : List UInt8} : ∀ l : List (List UInt8 × Int), (∀ x ∈ l, x.1 ≠ txt) → keyIn l txt = none
  | [], _ => rfl
  | x :: l, h => by
    unfold keyIn
    rw [if_neg (h x (by simp))]
    exact keyIn_none l fun y hy => h y (List.mem_cons_of_mem _ hy)
theorem keys_in : ∀ x ∈ keyL, x.1 ∈ nine ++ H.names := by decide
theorem name_free {s : List UInt8} (h : NameP s) : keyOf s = none := keyIn_none keyL fun x hx e => by
  have := keys_in x hx
  rw [e] at this
  rcases List.mem_append.1 this with h' | h'
  · exact h.2.2 h'
  · exact h.2.1 h'
theorem kd_cnt : kdOf cnt5 = 1 := by kernel_rfl
theorem no_sign {ws : List Wd} {e : Nat} {y : Wd} (hy : ws[e]? = some y) (hk : y.kind ≠ 3) (s : List UInt8) : No ws e s := isW_sign hy (.inl hk)
theorem flat_cons (q : Qu) (qs : List Qu) : ((q :: qs).map fun q => preQ q ++ wdT q.2).flatten = cnt5 :: (nmL q :: ([61] :: (wdT q.2 ++ (qs.map fun q => preQ q ++ wdT q.2).flatten))) := by
  simp [preQ]
theorem next_of {ws : List Wd} {i : Nat} {E : Wd} (hE0 : E.kind = 0) : ∀ (qs : List Qu), SegAt ws i (qs.map fun q => preQ q ++ wdT q.2).flatten → ws[i + (qs.map fun q => preQ q ++ wdT q.2).flatten.length]? = some E → ∃ y, ws[i]? = some y ∧ y.kind ≠ 3
  | [], _, h => ⟨E, by simpa using h, by omega⟩
  | q :: qs, h, _ => by
    rw [flat_cons] at h
    obtain ⟨⟨y, h1, h2, _, _⟩, _⟩ := h.cons
    exact ⟨y, h1, by rw [h2, kd_cnt]; omega⟩
theorem qs_back {ws : List Wd} {E : Wd} (hE0 : E.kind = 0) : ∀ (qs : List Qu) (i : Nat), (∀ q ∈ qs, shp true q.2 = true ∧ NameP (nmL q) ∧ nnT q.2) → SegAt ws i (qs.map fun q => preQ q ++ wdT q.2).flatten → ws[i + (qs.map fun q => preQ q ++ wdT q.2).flatten.length]? = some E →
    QsR ws i (qs.map fun q => (nmL q, bareT q.2)) (i + (qs.map fun q => preQ q ++ wdT q.2).flatten.length) true
  | [], i, _, _, hE => by
    have hE' : ws[i]? = some E := by simpa using hE
    refine .stop ?_
    rw [isW_at hE', hE0]
    exact decide_eq_false fun h => by have := h.1; omega
  | q :: qs, i, hq, hs, hE => by
    obtain ⟨q1, q2, q3⟩ := hq q (by simp)
    rw [flat_cons] at hs hE ⊢
    have w0 := hs.isW 1 cntW
    rw [decide_eq_true ⟨kd_cnt, rfl⟩] at w0
    have hs1 := hs.cons.2
    obtain ⟨⟨y, y1, y2, y3, _⟩, hs2⟩ := hs1.cons
    have w2 := hs2.isW 3 [61]
    rw [decide_eq_true ⟨kd_sign [61] (by simp), rfl⟩] at w2
    obtain ⟨s3, s4⟩ := hs2.cons.2.app
    have el : i + (cnt5 :: (nmL q :: ([61] :: (wdT q.2 ++ (qs.map fun q => preQ q ++ wdT q.2).flatten)))).length = i + 1 + 1 + 1 + (wdT q.2).length + (qs.map fun q => preQ q ++ wdT q.2).flatten.length := by
      simp only [List.length_cons, List.length_append]
      omega
    rw [el] at hE ⊢
    obtain ⟨z, z1, z2⟩ := next_of hE0 qs s4 hE
    have hr := (reads_all (ws := ws) leafH q.2 q3).1 q1
    have hp := hr.pred0 (i + 1 + 1 + 1) s3 (no_sign z1 z2 _) (no_sign z1 z2 _)
    have ng := name_good q2.1
    have hQa : Qa ws (i + 1) (.ok (bareT q.2) (i + 1 + 1 + 1 + (wdT q.2).length)) := by
      unfold Qa
      rw [y1]
      dsimp only
      have hn : isName y = true := by
        unfold isName
        rw [y2, ng.2, y3, name_free q2]
        rfl
      rw [if_pos hn, if_pos w2]
      exact hp
    have hg := QsR.go w0 y1 hQa (qs_back hE0 qs _ (fun q' h' => hq q' (List.mem_cons_of_mem _ h')) s4 hE)
    rw [y3] at hg
    exact hg
theorem preds_bare : ∀ qs : List Qu, (qs.map fun q => (nmL q, bareT q.2)).map (·.2) = bareL (preds qs)
  | [] => rfl
  | q :: qs => by
    have := preds_bare qs
    simp only [List.map_cons, preds, bareL]
    rw [this]
    rfl
theorem back_is {main : Tm} {qs : List Qu} (hR : RightP main qs) (hm : nnT main) (hn : ∀ q ∈ qs, nnT q.2) (hl : (textT main qs).length ≤ 65536) : PolP (textT main qs) (.ok (bareT main) (qs.map fun q => (nmL q, bareT q.2))) := by
  have hgood : ∀ l ∈ linesW main qs, l ≠ [] ∧ ∀ w ∈ l, Good w := fun l hl => by
    unfold linesW at hl
    rcases List.mem_cons.1 hl with rfl | hl
    · exact ⟨wd_ne main _ hR.2.1, wgood main _ hR.2.1 hm⟩
    · obtain ⟨q, hq, rfl⟩ := List.mem_map.1 hl
      have h1 := hR.2.2.1 q hq
      refine ⟨by simp [preQ], fun w hw => ?_⟩
      rcases List.mem_append.1 hw with hw | hw
      · simp only [preQ, List.mem_cons, List.not_mem_nil, or_false] at hw
        rcases hw with rfl | rfl | rfl
        · exact const_good cnt5 (by simp [cnt5])
        · exact (name_good h1.2.1).1
        · exact const_good _ (by simp)
      · exact wgood q.2 _ h1.1 (hn q hq) w hw
  obtain ⟨r, hr1, hr2⟩ := scan_lines (linesW main qs) hgood []
  have hsc := hr2 []
  simp only [List.nil_append, List.length_nil] at hsc
  rw [← text_ln] at hsc
  have hall := allR_of hl hsc
  unfold PolP
  rw [hall]
  generalize hE : (⟨0, [], 0, (textT main qs).length⟩ : Wd) = E
  have hE0 : E.kind = 0 := by rw [← hE]
  have hseg := seg_of hr1 [E]
  have hrl : r.length = (linesW main qs).flatten.length := by
    have := congrArg List.length hr1
    rw [List.length_map, List.length_map] at this
    exact this
  have hflat : (linesW main qs).flatten = wdT main ++ (qs.map fun q => preQ q ++ wdT q.2).flatten := rfl
  rw [hflat] at hseg hrl
  obtain ⟨s1, s2⟩ := hseg.app
  rw [Nat.zero_add] at s2
  have hEnd : (r ++ [E])[(wdT main).length + (qs.map fun q => preQ q ++ wdT q.2).flatten.length]? = some E := by
    rw [← List.length_append, ← hrl, List.getElem?_append_right (Nat.le_refl _), Nat.sub_self]
    rfl
  obtain ⟨z, z1, z2⟩ := next_of hE0 qs s2 hEnd
  have hm3 := (reads_all (ws := r ++ [E]) leafH main hm).2 hR.2.1
  have hp := hm3.pol0 0 s1 (by rw [Nat.zero_add]; exact ⟨no_sign z1 z2 _, no_sign z1 z2 _, no_sign z1 z2 _⟩) (by rw [Nat.zero_add]; exact no_sign z1 z2 _) (by rw [Nat.zero_add]; exact no_sign z1 z2 _)
  rw [Nat.zero_add] at hp
  have hq := qs_back hE0 qs (wdT main).length (fun q h => ⟨(hR.2.2.1 q h).1, (hR.2.2.1 q h).2, hn q h⟩) s2 hEnd
  refine .inr ⟨_, _, _, _, _, E, hp, hq, hEnd, ?_⟩
  unfold endS
  rw [if_pos ⟨rfl, hE0⟩, if_pos]
  have e1 := preds_bare qs
  rw [e1]
  unfold smallS
  have h1 := bare_size main
  have h2 := bareL_size (preds qs)
  have h3 := hR.2.2.2.1
  have h4 := hR.2.2.2.2
  simp only [lsize, ldepth] at h3 h4 ⊢
  exact decide_eq_true (by omega)
end Go.Proofs.YtpolbdakhfcilaaGreatDoor.B
