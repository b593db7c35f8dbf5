/-
  show: what is written is read as it was: the plain law.
-/
import Derived.Test.YtpolbdakhfcilaaGreatDoorShP
import Derived.Test.YtpolbdakhfcilaaGreatDoorPaSW
set_option maxRecDepth 100000
set_option linter.unusedVariables false
set_option linter.unusedSimpArgs false
namespace Go.Proofs.YtpolbdakhfcilaaGreatDoor.B
open Go Go.Proofs Go.Proofs.YtpolbdakhfcilaaGreatDoorEng Go.RowKit

mutual
/-- fields and numbers count in Is and Set alone -/
def bareT : Tm → Tm
  | .mk op f n ks => .mk op (if op = 2 ∨ op = 7 then f else 0) (if op = 2 ∨ op = 7 then n else 0) (bareL ks)
def bareL : List Tm → List Tm
  | [] => []
  | k :: ks => bareT k :: bareL ks
end
def kdOf (w : List UInt8) : Nat := match oneAt w 0 with
  | .ok k _ _ => k
  | .bad _ _ => 0
def nmOf (w : List UInt8) : Nat := match oneAt w 0 with
  | .ok _ _ n => n
  | .bad _ _ => 0
/-- these words stand at a place -/
def SegAt (ws : List Wd) (i : Nat) (l : Ws) : Prop := ∀ j x, l[j]? = some x → ∃ y, ws[i + j]? = some y ∧ y.kind = kdOf x ∧ y.txt = x ∧ y.num = nmOf x
theorem SegAt.app {ws : List Wd} {i : Nat} {a b : Ws} (h : SegAt ws i (a ++ b)) : SegAt ws i a ∧ SegAt ws (i + a.length) b := by
  refine ⟨fun j x hx => h j x ?_, fun j x hx => ?_⟩
  · rw [List.getElem?_append_left (List.getElem?_eq_some_iff.1 hx).1]; exact hx
  · have := h (a.length + j) x (by rw [List.getElem?_append_right (by omega), Nat.add_sub_cancel_left]; exact hx)
    rwa [← Nat.add_assoc] at this
theorem SegAt.cons {ws : List Wd} {i : Nat} {x : List UInt8} {b : Ws} (h : SegAt ws i (x :: b)) : (∃ y, ws[i]? = some y ∧ y.kind = kdOf x ∧ y.txt = x ∧ y.num = nmOf x) ∧ SegAt ws (i + 1) b :=
  ⟨h 0 x rfl, (h.app (a := [x]) (b := b)).2⟩
theorem SegAt.isW {ws : List Wd} {i : Nat} {x : List UInt8} {b : Ws} (h : SegAt ws i (x :: b)) (k : Nat) (txt : List UInt8) : isW ws i k txt = decide (kdOf x = k ∧ x = txt) := by
  obtain ⟨⟨y, h1, h2, h3, _⟩, _⟩ := h.cons
  rw [isW_at h1, h2, h3]
theorem isW_no {ws : List Wd} {i : Nat} {a b : List UInt8} (h : isW ws i 3 a = true) (hab : a ≠ b) : isW ws i 3 b = false := by
  cases hx : ws[i]? with
  | none => unfold isW; rw [hx]
  | some x =>
    rw [isW_at hx] at h ⊢
    have h1 := of_decide_eq_true h
    exact decide_eq_false fun h2 => hab (h1.2.symm.trans h2.2)
theorem kd_sign : ∀ s ∈ ([[33], [40], [41], [42], [38], [124], [59], [43], [61], [58, 61]] : Ws), kdOf s = 3 := by
  intro s hs
  simp only [List.mem_cons, List.not_mem_nil, or_false] at hs
  rcases hs with rfl | rfl | rfl | rfl | rfl | rfl | rfl | rfl | rfl | rfl <;> kernel_rfl
theorem kd_word : ∀ s ∈ ([[116, 114, 117, 101], [102, 97, 108, 115, 101], [105, 100], [100, 114, 111, 112], [102, 105, 108, 116, 101, 114]] : Ws), kdOf s = 1 := by
  intro s hs
  simp only [List.mem_cons, List.not_mem_nil, or_false] at hs
  rcases hs with rfl | rfl | rfl | rfl | rfl <;> kernel_rfl
/-- what is behind -/
abbrev No (ws : List Wd) (e : Nat) (s : List UInt8) : Prop := isW ws e 3 s = false
section
variable {ws : List Wd}
theorem tail_pa {k : Rw} {least : Nat} {C : Nat → Prop} (hC : ∀ e, isW ws e 3 k.sign = true → C e) (hk : kdOf k.sign = 3) : ∀ (ks : List Tm), (∀ t ∈ ks, ∀ i, SegAt ws i (atW least t) → C (i + (atW least t).length) → Pa ws k.part i (.ok (bareT t) (i + (atW least t).length))) →
    ∀ (acc : List Tm) (i : Nat), SegAt ws i (tlW least k.sign ks) → C (i + (tlW least k.sign ks).length) → No ws (i + (tlW least k.sign ks).length) k.sign → Pa ws (.rest k acc) i (.ok (mkRow k (acc ++ bareL ks)) (i + (tlW least k.sign ks).length))
  | [], _, acc, i, _, _, hn => by
    simp only [tlW, bareL, List.length_nil, Nat.add_zero, List.append_nil] at hn ⊢
    exact Pa.rest_end hn
  | t :: ks, hp, acc, i, hs, hc, hn => by
    simp only [tlW] at hs hc hn ⊢
    have hsg := hs.isW 3 k.sign
    rw [decide_eq_true ⟨hk, rfl⟩] at hsg
    obtain ⟨h1, h2⟩ := hs.cons.2.app
    have e1 : i + (k.sign :: (brW (decide (strT (opS t) < least)) (wdT t) ++ tlW least k.sign ks)).length = i + 1 + (atW least t).length + (tlW least k.sign ks).length := by
      simp [atW]; omega
    rw [e1] at hc hn ⊢
    have hcm : C (i + 1 + (atW least t).length) := by
      cases ks with
      | nil => simpa [tlW] using hc
      | cons t2 ks2 =>
        refine hC _ ?_
        have h2' : SegAt ws (i + 1 + (atW least t).length) (tlW least k.sign (t2 :: ks2)) := h2
        simp only [tlW] at h2'
        have := h2'.isW 3 k.sign
        rw [decide_eq_true ⟨hk, rfl⟩] at this
        exact this
    refine Pa.rest_go hsg (hp t (List.mem_cons_self ..) (i + 1) h1 hcm) ?_
    have := tail_pa hC hk ks (fun t' ht' => hp t' (List.mem_cons_of_mem _ ht')) (acc ++ [bareT t]) (i + 1 + (atW least t).length) h2 hc hn
    simpa [bareL, List.append_assoc] using this
theorem row_pa {k : Rw} {least : Nat} {C : Nat → Prop} (hC : ∀ e, isW ws e 3 k.sign = true → C e) (hk : kdOf k.sign = 3) {ks : List Tm} (hl : 2 ≤ ks.length) (hp : ∀ t ∈ ks, ∀ i, SegAt ws i (atW least t) → C (i + (atW least t).length) → Pa ws k.part i (.ok (bareT t) (i + (atW least t).length)))
    {i : Nat} (hs : SegAt ws i (rowW least k.sign ks)) (hc : C (i + (rowW least k.sign ks).length)) (hn : No ws (i + (rowW least k.sign ks).length) k.sign) : Pa ws (.row k) i (.ok (.mk k.op 0 0 (bareL ks)) (i + (rowW least k.sign ks).length)) := by
  match ks, hl with
  | t :: t2 :: ks, _ =>
    simp only [rowW] at hs hc hn ⊢
    obtain ⟨h1, h2⟩ := hs.app
    have e1 : i + (brW (decide (strT (opS t) < least)) (wdT t) ++ tlW least k.sign (t2 :: ks)).length = i + (atW least t).length + (tlW least k.sign (t2 :: ks)).length := by
      simp [atW]; omega
    rw [e1] at hc hn ⊢
    have h2' : SegAt ws (i + (atW least t).length) (tlW least k.sign (t2 :: ks)) := h2
    have hsg : isW ws (i + (atW least t).length) 3 k.sign = true := by
      have h3 := h2'
      simp only [tlW] at h3
      have := h3.isW 3 k.sign
      rwa [decide_eq_true ⟨hk, rfl⟩] at this
    have a1 := hp t (List.mem_cons_self ..) i h1 (hC _ hsg)
    have a2 := tail_pa hC hk (t2 :: ks) (fun t' ht' => hp t' (List.mem_cons_of_mem _ ht')) [bareT t] (i + (atW least t).length) h2' hc hn
    have := Pa.row a1 a2
    simpa [bareL, mkRow] using this
/-- a lift: what is read as a part is read as a row of one -/
theorem Pa.lift {k : Rw} {i j : Nat} {t : Tm} (h : Pa ws k.part i (.ok t j)) (hn : No ws j k.sign) : Pa ws (.row k) i (.ok t j) := Pa.row h (Pa.rest_end hn)
theorem Pa.brk_not {i j : Nat} {t : Tm} (h1 : isW ws i 3 [40] = true) (h : Pa ws (.row .pred) (i + 1) (.ok t j)) (h2 : isW ws j 3 [41] = true) (h0 : ∀ txt, txt ≠ [40] → isW ws i 3 txt = false) (h3 : ∀ txt, isW ws i 1 txt = false) : Pa ws .not i (.ok t (j + 1)) := by
  refine Pa.one (by simp) h fun f hf => ?_
  rw [pa, if_neg (by rw [h0 _ (by decide)]; simp), if_neg (by rw [h3]; simp), if_neg (by rw [h3]; simp), if_pos h1, hf]
  show closeS ws t j = _
  unfold closeS
  rw [if_pos h2]
theorem Pa.brk_atom {i j : Nat} {t : Tm} (h1 : isW ws i 3 [40] = true) (h : Pa ws (.row .pol) (i + 1) (.ok t j)) (h2 : isW ws j 3 [41] = true) (h3 : ∀ txt, isW ws i 1 txt = false) : Pa ws .atom i (.ok t (j + 1)) := by
  refine Pa.one (by simp) h fun f hf => ?_
  rw [pa, if_neg (by rw [h3]; simp), if_neg (by rw [h3]; simp), if_neg (by rw [h3]; simp), if_pos h1, hf]
  show closeS ws t j = _
  unfold closeS
  rw [if_pos h2]
theorem bareL_len : ∀ ks : List Tm, (bareL ks).length = ks.length
  | [] => rfl
  | k :: ks => by simp [bareL, bareL_len ks]
mutual
/-- numbers are numbers -/
def nnT : Tm → Prop
  | .mk _ _ n ks => 0 ≤ n ∧ n ≤ 18446744073709551615 ∧ nnL ks
def nnL : List Tm → Prop
  | [] => True
  | k :: ks => nnT k ∧ nnL ks
end
theorem nnL_get : ∀ {ks : List Tm} {k : Tm}, nnL ks → k ∈ ks → nnT k
  | x :: ks, k, h, hk => by
    simp only [nnL] at h
    rcases List.mem_cons.1 hk with rfl | hk
    · exact h.1
    · exact nnL_get h.2 hk
def LeafH : Prop := ∀ (fk nk : Nat), fk < 11 → nk < 18446744073709551616 → H.fitsN (fk : Int) nk = true → kdOf (H.nam fk) = 1 ∧ keyOf (H.nam fk) = some (fk : Int) ∧ kdOf (H.numTxt fk nk) = 2 ∧ nmOf (H.numTxt fk nk) = nk
theorem pred_of {p : Bool} {op f n : Int} {ks : List Tm} (h : shp p (.mk op f n ks) = true) : p = decide (op < 6) := by
  simp only [shp, Bool.and_eq_true, beq_iff_eq] at h
  exact h.1.1.1.2
/-- the levels at which a term is read -/
structure Reads4 (ws : List Wd) (t : Tm) : Prop where
  not2 : ∀ i, SegAt ws i (atW 2 t) → Pa ws .not i (.ok (bareT t) (i + (atW 2 t).length))
  and1 : ∀ i, SegAt ws i (atW 1 t) → No ws (i + (atW 1 t).length) [38] → Pa ws (.row .and) i (.ok (bareT t) (i + (atW 1 t).length))
  pred0 : ∀ i, SegAt ws i (wdT t) → No ws (i + (wdT t).length) [38] → No ws (i + (wdT t).length) [124] → Pa ws (.row .pred) i (.ok (bareT t) (i + (wdT t).length))
def NoP (ws : List Wd) (e : Nat) : Prop := No ws e [42] ∧ No ws e [38] ∧ No ws e [124]
structure Reads3 (ws : List Wd) (t : Tm) : Prop where
  star2 : ∀ i, SegAt ws i (atW 2 t) → NoP ws (i + (atW 2 t).length) → Pa ws .star i (.ok (bareT t) (i + (atW 2 t).length))
  seq1 : ∀ i, SegAt ws i (atW 1 t) → NoP ws (i + (atW 1 t).length) → No ws (i + (atW 1 t).length) [59] → Pa ws (.row .seq) i (.ok (bareT t) (i + (atW 1 t).length))
  pol0 : ∀ i, SegAt ws i (wdT t) → NoP ws (i + (wdT t).length) → No ws (i + (wdT t).length) [59] → No ws (i + (wdT t).length) [43] → Pa ws (.row .pol) i (.ok (bareT t) (i + (wdT t).length))
theorem brk_seg {i : Nat} {l : Ws} (h : SegAt ws i ([40] :: (l ++ [[41]]))) : isW ws i 3 [40] = true ∧ (∀ txt, txt ≠ [40] → isW ws i 3 txt = false) ∧ (∀ txt, isW ws i 1 txt = false) ∧ SegAt ws (i + 1) l ∧ isW ws (i + 1 + l.length) 3 [41] = true ∧ (∀ txt, txt ≠ [41] → isW ws (i + 1 + l.length) 3 txt = false) := by
  have k40 := kd_sign [40] (by simp)
  have k41 := kd_sign [41] (by simp)
  obtain ⟨h1, h2⟩ := h.cons.2.app
  have w0 := h.isW
  have w1 := h2.isW
  refine ⟨by rw [w0, k40]; rfl, fun txt ht => by rw [w0]; exact decide_eq_false fun e => ht e.2.symm, fun txt => by rw [w0, k40]; exact decide_eq_false fun e => by have := e.1; omega, h1, by rw [w1, k41]; rfl, fun txt ht => by rw [w1]; exact decide_eq_false fun e => ht e.2.symm⟩
theorem at_br {l : Nat} {t : Tm} (h : strT (opS t) < l) : atW l t = [40] :: (wdT t ++ [[41]]) := by
  unfold atW brW
  rw [if_pos (by simp [h])]
theorem at_wd {l : Nat} {t : Tm} (h : ¬ strT (opS t) < l) : atW l t = wdT t := by
  unfold atW brW
  rw [if_neg (by simp [h])]
theorem len_br (i : Nat) (l : Ws) : i + ([40] :: (l ++ [[41]])).length = i + 1 + l.length + 1 := by simp; omega
/-- from what is read of a term's own words, all levels -/
theorem reads4_of {t : Tm} (hn : 2 ≤ strT (opS t) → ∀ i, SegAt ws i (wdT t) → Pa ws .not i (.ok (bareT t) (i + (wdT t).length)))
    (ha : strT (opS t) = 1 → ∀ i, SegAt ws i (wdT t) → No ws (i + (wdT t).length) [38] → Pa ws (.row .and) i (.ok (bareT t) (i + (wdT t).length)))
    (hp : strT (opS t) = 0 → ∀ i, SegAt ws i (wdT t) → No ws (i + (wdT t).length) [38] → No ws (i + (wdT t).length) [124] → Pa ws (.row .pred) i (.ok (bareT t) (i + (wdT t).length))) : Reads4 ws t := by
  have and1 : 1 ≤ strT (opS t) → ∀ i, SegAt ws i (wdT t) → No ws (i + (wdT t).length) [38] → Pa ws (.row .and) i (.ok (bareT t) (i + (wdT t).length)) := fun h i hs h1 => by
    rcases Nat.lt_or_ge (strT (opS t)) 2 with h2 | h2
    · exact ha (by omega) i hs h1
    · exact Pa.lift (k := .and) (hn h2 i hs) h1
  have pred0 : ∀ i, SegAt ws i (wdT t) → No ws (i + (wdT t).length) [38] → No ws (i + (wdT t).length) [124] → Pa ws (.row .pred) i (.ok (bareT t) (i + (wdT t).length)) := fun i hs h1 h2 => by
    rcases Nat.lt_or_ge (strT (opS t)) 1 with h3 | h3
    · exact hp (by omega) i hs h1 h2
    · exact Pa.lift (k := .pred) (and1 h3 i hs h1) h2
  have br : ∀ i, SegAt ws i ([40] :: (wdT t ++ [[41]])) → Pa ws .not i (.ok (bareT t) (i + 1 + (wdT t).length + 1)) := fun i hs => by
    obtain ⟨b1, b2, b3, b4, b5, b6⟩ := brk_seg hs
    exact Pa.brk_not b1 (pred0 (i + 1) b4 (b6 _ (by decide)) (b6 _ (by decide))) b5 b2 b3
  refine ⟨fun i hs => ?_, fun i hs h1 => ?_, pred0⟩
  · by_cases h : strT (opS t) < 2
    · rw [at_br h] at hs ⊢
      rw [len_br]
      exact br i hs
    · rw [at_wd h] at hs ⊢
      exact hn (by omega) i hs
  · by_cases h : strT (opS t) < 1
    · rw [at_br h] at hs h1 ⊢
      rw [len_br] at h1 ⊢
      exact Pa.lift (k := .and) (br i hs) h1
    · rw [at_wd h] at hs h1 ⊢
      exact and1 (by omega) i hs h1
theorem reads3_of {t : Tm} (hn : 2 ≤ strT (opS t) → ∀ i, SegAt ws i (wdT t) → NoP ws (i + (wdT t).length) → Pa ws .star i (.ok (bareT t) (i + (wdT t).length)))
    (ha : strT (opS t) = 1 → ∀ i, SegAt ws i (wdT t) → NoP ws (i + (wdT t).length) → No ws (i + (wdT t).length) [59] → Pa ws (.row .seq) i (.ok (bareT t) (i + (wdT t).length)))
    (hp : strT (opS t) = 0 → ∀ i, SegAt ws i (wdT t) → NoP ws (i + (wdT t).length) → No ws (i + (wdT t).length) [59] → No ws (i + (wdT t).length) [43] → Pa ws (.row .pol) i (.ok (bareT t) (i + (wdT t).length))) : Reads3 ws t := by
  have seq1 : 1 ≤ strT (opS t) → ∀ i, SegAt ws i (wdT t) → NoP ws (i + (wdT t).length) → No ws (i + (wdT t).length) [59] → Pa ws (.row .seq) i (.ok (bareT t) (i + (wdT t).length)) := fun h i hs h0 h1 => by
    rcases Nat.lt_or_ge (strT (opS t)) 2 with h2 | h2
    · exact ha (by omega) i hs h0 h1
    · exact Pa.lift (k := .seq) (hn h2 i hs h0) h1
  have pol0 : ∀ i, SegAt ws i (wdT t) → NoP ws (i + (wdT t).length) → No ws (i + (wdT t).length) [59] → No ws (i + (wdT t).length) [43] → Pa ws (.row .pol) i (.ok (bareT t) (i + (wdT t).length)) := fun i hs h0 h1 h2 => by
    rcases Nat.lt_or_ge (strT (opS t)) 1 with h3 | h3
    · exact hp (by omega) i hs h0 h1 h2
    · exact Pa.lift (k := .pol) (seq1 h3 i hs h0 h1) h2
  have br : ∀ i, SegAt ws i ([40] :: (wdT t ++ [[41]])) → No ws (i + 1 + (wdT t).length + 1) [42] → Pa ws .star i (.ok (bareT t) (i + 1 + (wdT t).length + 1)) := fun i hs h0 => by
    obtain ⟨b1, b2, b3, b4, b5, b6⟩ := brk_seg hs
    exact Pa.star (Pa.brk_atom b1 (pol0 (i + 1) b4 ⟨b6 _ (by decide), b6 _ (by decide), b6 _ (by decide)⟩ (b6 _ (by decide)) (b6 _ (by decide))) b5 b3) (Pa.stars_end h0)
  refine ⟨fun i hs h0 => ?_, fun i hs h0 h1 => ?_, pol0⟩
  · by_cases h : strT (opS t) < 2
    · rw [at_br h] at hs h0 ⊢
      rw [len_br] at h0 ⊢
      exact br i hs h0.1
    · rw [at_wd h] at hs h0 ⊢
      exact hn (by omega) i hs h0
  · by_cases h : strT (opS t) < 1
    · rw [at_br h] at hs h0 h1 ⊢
      rw [len_br] at h0 h1 ⊢
      exact Pa.lift (k := .seq) (br i hs h0.1) h1
    · rw [at_wd h] at hs h0 h1 ⊢
      exact seq1 (by omega) i hs h0 h1
theorem leaf0 {op : Int} {ks : List Tm} (h : hiK op = 0) (hc : loK op ≤ ks.length ∧ ks.length ≤ hiK op) : ks = [] := List.eq_nil_of_length_eq_zero (by omega)
theorem pair_seg {i fk nk op : Nat} {sg : List UInt8} (hk : keyOf (H.nam fk) = some (fk : Int)) (h1 : kdOf (H.nam fk) = 1) (h2 : kdOf (H.numTxt fk nk) = 2) (h3 : nmOf (H.numTxt fk nk) = nk) (hsg : kdOf sg = 3) (hs : SegAt ws i [H.nam fk, sg, H.numTxt fk nk]) : pairS ws op sg i = .ok (.mk op fk nk []) (i + 3) := by
  obtain ⟨⟨x, x1, x2, x3, _⟩, hs2⟩ := hs.cons
  have w := hs2.isW 3 sg
  rw [decide_eq_true ⟨hsg, rfl⟩] at w
  obtain ⟨⟨z, z1, z2, z3, z4⟩, _⟩ := hs2.cons.2.cons
  have := pairS_mk (op := op) x1 (by rw [x3]; exact hk) (by rw [x2]; exact h1) (by omega) w z1 (by rw [z2]; exact h2)
  rw [this, z4, h3]
theorem nam_ne {fk : Nat} (hk : keyOf (H.nam fk) = some (fk : Int)) {w : List UInt8} (hw : keyOf w = some (-1)) : H.nam fk ≠ w := fun e => by
  rw [e, hw] at hk
  injection hk with hk
  omega
theorem reads_all (hL : LeafH) : ∀ (t : Tm), nnT t → (shp true t = true → Reads4 ws t) ∧ (shp false t = true → Reads3 ws t) := by
  intro t
  generalize hsz : tsize t = sz
  induction sz using Nat.strongRecOn generalizing t with
  | _ sz ih =>
    intro hnn
    subst hsz
    obtain ⟨op, f, n, ks⟩ := t
    simp only [nnT] at hnn
    have kid : ∀ k ∈ ks, (shp true k = true → Reads4 ws k) ∧ (shp false k = true → Reads3 ws k) := fun k hk => ih (tsize k) (tsize_kid hk) k rfl (nnL_get hnn.2.2 hk)
    have memP : ∀ {p : Bool} {k : Tm}, shpL p ks = true → k ∈ ks → shp p k = true := fun {p k} h hk => by
      obtain ⟨j, hj, rfl⟩ := List.mem_iff_getElem.1 hk
      exact shpL_get hj h
    have kw : ∀ w, w ∈ ([[116, 114, 117, 101], [102, 97, 108, 115, 101], [105, 100], [100, 114, 111, 112], [102, 105, 108, 116, 101, 114], [105, 102]] : Ws) → keyOf w = some (-1) := fun w hw => by
      simp only [List.mem_cons, List.not_mem_nil, or_false] at hw
      rcases hw with rfl | rfl | rfl | rfl | rfl | rfl <;> rfl
    constructor
    · intro h
      obtain ⟨hop, hnum, hcnt, hkids⟩ := ops h
      have hp := pred_of h
      have h6 : op < 6 := of_decide_eq_true hp.symm
      have kT : ∀ k ∈ ks, Reads4 ws k := fun k hk => (kid k hk).1 (by have := memP hkids hk; simpa using this)
      rcases hop with rfl | rfl | rfl | rfl | rfl | rfl | rfl | rfl | rfl | rfl | rfl
      · obtain rfl := leaf0 (op := 0) rfl hcnt
        refine reads4_of (fun _ i hs => ?_) (fun e => by cases e) (fun e => by cases e)
        have hwd : wdT (.mk 0 f n []) = [[102, 97, 108, 115, 101]] := by simp [wdT, leafW]
        rw [hwd] at hs ⊢
        have k1 := kd_word [102, 97, 108, 115, 101] (by simp)
        refine ⟨by simp, 1, ?_⟩
        rw [pa, hs.isW, hs.isW, hs.isW, k1]
        rfl
      · obtain rfl := leaf0 (op := 1) rfl hcnt
        refine reads4_of (fun _ i hs => ?_) (fun e => by cases e) (fun e => by cases e)
        have hwd : wdT (.mk 1 f n []) = [[116, 114, 117, 101]] := by simp [wdT, leafW]
        rw [hwd] at hs ⊢
        have k1 := kd_word [116, 114, 117, 101] (by simp)
        refine ⟨by simp, 1, ?_⟩
        rw [pa, hs.isW, hs.isW, k1]
        rfl
      · obtain rfl := leaf0 (op := 2) rfl hcnt
        refine reads4_of (fun _ i hs => ?_) (fun e => by cases e) (fun e => by cases e)
        have hwd : wdT (.mk 2 f n []) = [H.nam f.toNat, [61], H.numTxt f.toNat n.toNat] := by simp [wdT, leafW]
        have hfit : H.fitsN f n.toNat = true := hnum
        obtain ⟨fk, nk, rfl, rfl, hf, hn⟩ := fits_rng hfit hnn.1 hnn.2.1
        obtain ⟨l1, l2, l3, l4⟩ := hL fk nk hf hn (by simpa using hfit)
        rw [hwd] at hs ⊢
        have hs' : SegAt ws i [H.nam fk, [61], H.numTxt fk nk] := hs
        refine ⟨by simp, 1, ?_⟩
        rw [pa, if_neg (by rw [hs'.isW, l1]; simp), if_neg (by rw [hs'.isW]; simp [nam_ne l2 (kw [116, 114, 117, 101] (by simp))]), if_neg (by rw [hs'.isW]; simp [nam_ne l2 (kw [102, 97, 108, 115, 101] (by simp))]), if_neg (by rw [hs'.isW, l1]; simp), pair_seg (op := 2) l2 l1 l3 l4 (kd_sign [61] (by simp)) hs']
        rfl
      · obtain ⟨k0, rfl⟩ := List.length_eq_one_iff.1 (show ks.length = 1 by have : loK 3 = 1 := rfl; have : hiK 3 = 1 := rfl; omega)
        refine reads4_of (fun _ i hs => ?_) (fun e => by cases e) (fun e => by cases e)
        have hwd : wdT (.mk 3 f n [k0]) = [33] :: atW 2 k0 := by simp [wdT, preW, postW, rowW, tlW, lst, atW]
        rw [hwd] at hs ⊢
        have := (kT k0 (by simp)).not2 (i + 1) hs.cons.2
        have k33 := kd_sign [33] (by simp)
        rw [show i + ([33] :: atW 2 k0).length = i + 1 + (atW 2 k0).length by simp; omega]
        refine Pa.one (by simp) this fun g hg => ?_
        rw [pa, if_pos (by rw [hs.isW, k33]; rfl), hg]
        rfl
      · have h2l : 2 ≤ ks.length := hcnt.1
        refine reads4_of (fun e => by have : strT 4 = 1 := rfl; simp only [opS] at e; omega) (fun _ i hs h1 => ?_) (fun e => by cases e)
        have hwd : wdT (.mk 4 f n ks) = rowW 2 [38] ks := by simp [wdT, preW, postW, lst, sgn]
        rw [hwd] at hs h1 ⊢
        exact row_pa (k := .and) (least := 2) (C := fun _ => True) (fun _ _ => trivial) (kd_sign [38] (by simp)) h2l (fun t ht i hs _ => (kT t ht).not2 i hs) hs trivial h1
      · have h2l : 2 ≤ ks.length := hcnt.1
        refine reads4_of (fun e => by have : strT 5 = 0 := rfl; simp only [opS] at e; omega) (fun e => by cases e) (fun _ i hs h1 h2 => ?_)
        have hwd : wdT (.mk 5 f n ks) = rowW 1 [124] ks := by simp [wdT, preW, postW, lst, sgn]
        rw [hwd] at hs h1 h2 ⊢
        exact row_pa (k := .pred) (least := 1) (C := fun e => No ws e [38]) (fun e he => isW_no he (by decide)) (kd_sign [124] (by simp)) h2l (fun t ht i hs hc => (kT t ht).and1 i hs hc) hs h1 h2
      all_goals (exfalso; omega)
    · intro h
      obtain ⟨hop, hnum, hcnt, hkids⟩ := ops h
      have hp := pred_of h
      have h6 : ¬ op < 6 := of_decide_eq_false hp.symm
      rcases hop with rfl | rfl | rfl | rfl | rfl | rfl | rfl | rfl | rfl | rfl | rfl
      · exfalso; omega
      · exfalso; omega
      · exfalso; omega
      · exfalso; omega
      · exfalso; omega
      · exfalso; omega
      · obtain ⟨k0, rfl⟩ := List.length_eq_one_iff.1 (show ks.length = 1 by have : loK 6 = 1 := rfl; have : hiK 6 = 1 := rfl; omega)
        have kT : Reads4 ws k0 := (kid k0 (by simp)).1 (memP hkids (by simp))
        have hk0 := memP (k := k0) hkids (by simp)
        refine reads3_of (fun _ i hs h0 => ?_) (fun e => by cases e) (fun e => by cases e)
        refine Pa.star (t := bareT (.mk 6 f n [k0])) ?_ (Pa.stars_end h0.1)
        obtain ⟨op1, f1, n1, ks1⟩ := k0
        have c1 := (ops hk0).2.2.1
        by_cases e1 : op1 = 1
        · subst e1
          obtain rfl := leaf0 (op := 1) rfl c1
          have hwd : wdT (.mk 6 f n [.mk 1 f1 n1 []]) = [[105, 100]] := by simp [wdT, first, opS]
          rw [hwd] at hs ⊢
          have k1 := kd_word [105, 100] (by simp)
          refine ⟨by simp, 1, ?_⟩
          rw [pa, hs.isW, hs.isW, k1]
          rfl
        · by_cases e0 : op1 = 0
          · subst e0
            obtain rfl := leaf0 (op := 0) rfl c1
            have hwd : wdT (.mk 6 f n [.mk 0 f1 n1 []]) = [[100, 114, 111, 112]] := by simp [wdT, first, opS]
            rw [hwd] at hs ⊢
            have k1 := kd_word [100, 114, 111, 112] (by simp)
            refine ⟨by simp, 1, ?_⟩
            rw [pa, hs.isW, hs.isW, hs.isW, k1]
            rfl
          · have hwd : wdT (.mk 6 f n [.mk op1 f1 n1 ks1]) = [102, 105, 108, 116, 101, 114] :: wdT (.mk op1 f1 n1 ks1) := by
              rw [wdT, if_neg (by decide), if_neg (by simp [first, opS, e1]), if_neg (by simp [first, opS, e0])]
              simp [preW, postW, rowW, tlW, lst, brW]
            rw [hwd] at hs h0 ⊢
            have el : i + ([102, 105, 108, 116, 101, 114] :: wdT (.mk op1 f1 n1 ks1)).length = i + 1 + (wdT (.mk op1 f1 n1 ks1)).length := by simp; omega
            rw [el] at h0 ⊢
            have := kT.pred0 (i + 1) hs.cons.2 h0.2.1 h0.2.2
            have k1 := kd_word [102, 105, 108, 116, 101, 114] (by simp)
            refine Pa.one (by simp) this fun g hg => ?_
            rw [pa, if_pos (by rw [hs.isW, k1]; rfl), hg]
            rfl
      · obtain rfl := leaf0 (op := 7) rfl hcnt
        refine reads3_of (fun _ i hs h0 => ?_) (fun e => by cases e) (fun e => by cases e)
        refine Pa.star (t := bareT (.mk 7 f n [])) ?_ (Pa.stars_end h0.1)
        have hwd : wdT (.mk 7 f n []) = [H.nam f.toNat, [58, 61], H.numTxt f.toNat n.toNat] := by simp [wdT, leafW]
        have hfit : H.fitsN f n.toNat = true := hnum
        obtain ⟨fk, nk, rfl, rfl, hf, hn⟩ := fits_rng hfit hnn.1 hnn.2.1
        obtain ⟨l1, l2, l3, l4⟩ := hL fk nk hf hn (by simpa using hfit)
        rw [hwd] at hs ⊢
        have hs' : SegAt ws i [H.nam fk, [58, 61], H.numTxt fk nk] := hs
        refine ⟨by simp, 1, ?_⟩
        rw [pa, if_neg (by rw [hs'.isW]; simp [nam_ne l2 (kw [102, 105, 108, 116, 101, 114] (by simp))]), if_neg (by rw [hs'.isW]; simp [nam_ne l2 (kw [105, 100] (by simp))]), if_neg (by rw [hs'.isW]; simp [nam_ne l2 (kw [100, 114, 111, 112] (by simp))]), if_neg (by rw [hs'.isW, l1]; simp), if_neg (by rw [hs'.isW]; simp [nam_ne l2 (kw [105, 102] (by simp))]), pair_seg (op := 7) l2 l1 l3 l4 (kd_sign [58, 61] (by simp)) hs']
        rfl
      · have h2l : 2 ≤ ks.length := hcnt.1
        have kT : ∀ k ∈ ks, Reads3 ws k := fun k hk => (kid k hk).2 (by have := memP hkids hk; simpa using this)
        refine reads3_of (fun e => by have : strT 8 = 0 := rfl; simp only [opS] at e; omega) (fun e => by cases e) (fun _ i hs h0 h1 h2 => ?_)
        have hwd : wdT (.mk 8 f n ks) = rowW 1 [43] ks := by simp [wdT, preW, postW, lst, sgn]
        rw [hwd] at hs h0 h1 h2 ⊢
        exact row_pa (k := .pol) (least := 1) (C := fun e => NoP ws e ∧ No ws e [59]) (fun e he => ⟨⟨isW_no he (by decide), isW_no he (by decide), isW_no he (by decide)⟩, isW_no he (by decide)⟩) (kd_sign [43] (by simp)) h2l (fun t ht i hs hc => (kT t ht).seq1 i hs hc.1 hc.2) hs ⟨h0, h1⟩ h2
      · have h2l : 2 ≤ ks.length := hcnt.1
        have kT : ∀ k ∈ ks, Reads3 ws k := fun k hk => (kid k hk).2 (by have := memP hkids hk; simpa using this)
        refine reads3_of (fun e => by have : strT 9 = 1 := rfl; simp only [opS] at e; omega) (fun _ i hs h0 h1 => ?_) (fun e => by cases e)
        have hwd : wdT (.mk 9 f n ks) = rowW 2 [59] ks := by simp [wdT, preW, postW, lst, sgn]
        rw [hwd] at hs h0 h1 ⊢
        exact row_pa (k := .seq) (least := 2) (C := fun e => NoP ws e) (fun e he => ⟨isW_no he (by decide), isW_no he (by decide), isW_no he (by decide)⟩) (kd_sign [59] (by simp)) h2l (fun t ht i hs hc => (kT t ht).star2 i hs hc) hs h0 h1
      · obtain ⟨k0, rfl⟩ := List.length_eq_one_iff.1 (show ks.length = 1 by have : loK 10 = 1 := rfl; have : hiK 10 = 1 := rfl; omega)
        have kT : Reads3 ws k0 := (kid k0 (by simp)).2 (by have := memP (k := k0) hkids (by simp); simpa using this)
        refine reads3_of (fun _ i hs h0 => ?_) (fun e => by cases e) (fun e => by cases e)
        have hwd : wdT (.mk 10 f n [k0]) = ([40] :: (wdT k0 ++ [[41]])) ++ [[42]] := by
          rw [wdT, if_neg (by decide), if_neg (fun e => absurd e.1 (by decide)), if_neg (fun e => absurd e.1 (by decide))]
          simp [preW, postW, rowW, tlW, lst, brW]
        rw [hwd] at hs h0 ⊢
        obtain ⟨s1, s2⟩ := hs.app
        have el : i + (([40] :: (wdT k0 ++ [[41]])) ++ [[42]]).length = i + 1 + (wdT k0).length + 1 + 1 := by simp; omega
        rw [el] at h0 ⊢
        obtain ⟨b1, b2, b3, b4, b5, b6⟩ := brk_seg s1
        rw [len_br] at s2
        have k42 := kd_sign [42] (by simp)
        have w42 : isW ws (i + 1 + (wdT k0).length + 1) 3 [42] = true := by rw [s2.isW, k42]; rfl
        exact Pa.star (Pa.brk_atom b1 (kT.pol0 (i + 1) b4 ⟨b6 _ (by decide), b6 _ (by decide), b6 _ (by decide)⟩ (b6 _ (by decide)) (b6 _ (by decide))) b5 b3) (Pa.stars_go w42 (Pa.stars_end h0.1))
end

def Good (w : List UInt8) : Prop := oneAt w 0 = .ok (kdOf w) w.length (nmOf w) ∧ 0 < w.length ∧ ¬ blankc (g w 0) ∧ g w 0 ≠ 35
theorem good_of {w : List UInt8} {kd n : Nat} (h : oneAt w 0 = .ok kd w.length n) (h1 : 0 < w.length) (h2 : ¬ blankc (g w 0)) (h3 : g w 0 ≠ 35) : Good w ∧ kdOf w = kd ∧ nmOf w = n := by
  have e1 : kdOf w = kd := by unfold kdOf; rw [h]
  have e2 : nmOf w = n := by unfold nmOf; rw [h]
  exact ⟨⟨by rw [e1, e2]; exact h, h1, h2, h3⟩, e1, e2⟩
theorem scan_skip {u : List UInt8} {k : Nat} {acc : List Wd} (h : k < u.length) (hb : blankc (g u k)) : scan u k acc = scan u (k + 1) acc := by
  rcases hb with h1 | h1 | h1 | h1
  · exact scan_sk (sk_blank h (.inl h1))
  · exact scan_sk (sk_blank h (.inr (.inl h1)))
  · exact scan_sk (sk_nl h h1)
  · exact scan_sk (sk_blank h (.inr (.inr h1)))
theorem scan_word {w : List UInt8} (hw : Good w) (c : UInt8) (hc : blankc c.toNat) (pre rest : List UInt8) (acc : List Wd) : scan (pre ++ (w ++ c :: rest)) pre.length acc = scan (pre ++ (w ++ c :: rest)) (pre.length + w.length + 1) (acc ++ [⟨kdOf w, w, nmOf w, pre.length⟩]) := by
  obtain ⟨h0, h1, h2, h3⟩ := hw
  have gi : ∀ i, i < w.length → g (pre ++ (w ++ c :: rest)) (pre.length + i) = g w i := fun i hi => by rw [g_right, g_left hi]
  have g0 := gi 0 h1
  rw [Nat.add_zero] at g0
  have hlt : pre.length < (pre ++ (w ++ c :: rest)).length := by simp; omega
  have hsk : sk (pre ++ (w ++ c :: rest)) false pre.length = pre.length := by
    refine sk_stop hlt ?_ ?_ ?_
    · rw [g0]; exact fun h => h2 (.inr (.inr (.inl h)))
    · rw [g0]
      rintro (h | h | h)
      · exact h2 (.inl h)
      · exact h2 (.inr (.inl h))
      · exact h2 (.inr (.inr (.inr h)))
    · rw [g0]; exact h3
  have gc : g (pre ++ (w ++ c :: rest)) (pre.length + w.length) = c.toNat := by
    have := g_right (pre ++ w) (c :: rest) 0
    rw [Nat.add_zero, List.append_assoc, List.length_append] at this
    rw [this]
    rfl
  have ha : Ag w 0 (pre ++ (w ++ c :: rest)) pre.length w.length := ⟨⟨by omega, by simp, fun i hi => by rw [gi i hi, Nat.zero_add]⟩, .inr (by rw [gc]; exact hc)⟩
  have ho := one_same ha (L := w.length) h1 (Nat.le_refl _) (by rw [Nat.zero_add]; exact h0)
  have hcut : cut (pre ++ (w ++ c :: rest)) pre.length (pre.length + w.length) = w := by
    have := cut_same ha.1 w.length 0 w.length (by omega) (Nat.le_refl _)
    rw [Nat.add_zero, Nat.zero_add] at this
    rw [this]
    unfold cut
    simp
  rw [scan_go (by rw [hsk]; exact hlt) (by rw [hsk]; exact ho), hsk, hcut]
  exact scan_skip (by simp) (by rw [gc]; exact hc)
def st (x : Wd) : Nat × List UInt8 × Nat := (x.kind, x.txt, x.num)
def tkS (w : List UInt8) : Nat × List UInt8 × Nat := (kdOf w, w, nmOf w)
theorem scan_jn (c : UInt8) (hc : blankc c.toNat) : ∀ (l : Ws), l ≠ [] → (∀ w ∈ l, Good w) → ∀ (pre rest : List UInt8), ∃ r : List Wd, r.map st = l.map tkS ∧ ∀ acc, scan (pre ++ (jn l ++ c :: rest)) pre.length acc = scan (pre ++ (jn l ++ c :: rest)) (pre.length + (jn l).length + 1) (acc ++ r)
  | [], h, _, _, _ => absurd rfl h
  | [w], _, hg, pre, rest => by
    refine ⟨[⟨kdOf w, w, nmOf w, pre.length⟩], rfl, fun acc => ?_⟩
    rw [jn_one]
    exact scan_word (hg w (by simp)) c hc pre rest acc
  | w :: y :: l, _, hg, pre, rest => by
    have hj := jn_cons w (l := y :: l) (by simp)
    obtain ⟨r, h1, h2⟩ := scan_jn c hc (y :: l) (by simp) (fun x hx => hg x (List.mem_cons_of_mem _ hx)) (pre ++ (w ++ [32])) rest
    refine ⟨⟨kdOf w, w, nmOf w, pre.length⟩ :: r, by rw [List.map_cons, h1]; rfl, fun acc => ?_⟩
    have e : pre ++ (jn (w :: y :: l) ++ c :: rest) = pre ++ (w ++ 32 :: (jn (y :: l) ++ c :: rest)) := by rw [hj]; simp
    have e2 : pre ++ (w ++ 32 :: (jn (y :: l) ++ c :: rest)) = (pre ++ (w ++ [32])) ++ (jn (y :: l) ++ c :: rest) := by simp
    rw [e, scan_word (hg w (by simp)) 32 (.inl rfl) pre _ acc, e2]
    have := h2 (acc ++ [⟨kdOf w, w, nmOf w, pre.length⟩])
    have el : (pre ++ (w ++ [32])).length = pre.length + w.length + 1 := by simp; omega
    rw [el] at this
    rw [this, hj]
    congr 1
    · simp; omega
    · simp
/-- lines, each with its end -/
def lnTxt : List Ws → List UInt8
  | [] => []
  | l :: ls => jn l ++ 10 :: lnTxt ls
theorem scan_lines : ∀ (ls : List Ws), (∀ l ∈ ls, l ≠ [] ∧ ∀ w ∈ l, Good w) → ∀ (pre : List UInt8), ∃ r : List Wd, r.map st = ls.flatten.map tkS ∧ ∀ acc, scan (pre ++ lnTxt ls) pre.length acc = .inl (acc ++ r)
  | [], _, pre => ⟨[], rfl, fun acc => by rw [scan_end (by rw [sk_end (by simp [lnTxt])]; simp [lnTxt]), List.append_nil]⟩
  | l :: ls, h, pre => by
    have hl := h l (by simp)
    obtain ⟨r1, a1, b1⟩ := scan_jn 10 (.inr (.inr (.inl rfl))) l hl.1 hl.2 pre (lnTxt ls)
    obtain ⟨r2, a2, b2⟩ := scan_lines ls (fun x hx => h x (List.mem_cons_of_mem _ hx)) (pre ++ (jn l ++ [10]))
    refine ⟨r1 ++ r2, by rw [List.map_append, a1, a2]; simp, fun acc => ?_⟩
    have e2 : pre ++ (jn l ++ 10 :: lnTxt ls) = (pre ++ (jn l ++ [10])) ++ lnTxt ls := by simp
    show scan (pre ++ (jn l ++ 10 :: lnTxt ls)) pre.length acc = _
    rw [b1 acc, e2]
    have := b2 (acc ++ r1)
    have el : (pre ++ (jn l ++ [10])).length = pre.length + (jn l).length + 1 := by simp; omega
    rw [el] at this
    rw [this, List.append_assoc]
theorem seg_of {r : List Wd} {l : Ws} (h : r.map st = l.map tkS) (e : List Wd) : SegAt (r ++ e) 0 l := fun j x hx => by
  have h1 := congrArg (fun l => l[j]?) h
  simp only [List.getElem?_map, hx] at h1
  cases hr : r[j]? with
  | none => rw [hr] at h1; cases h1
  | some y =>
    rw [hr] at h1
    simp only [Option.map_some, st, tkS, Option.some.injEq, Prod.mk.injEq] at h1
    refine ⟨y, ?_, h1.1, h1.2.1, h1.2.2⟩
    rw [Nat.zero_add, List.getElem?_append_left (List.getElem?_eq_some_iff.1 hr).1]
    exact hr
end Go.Proofs.YtpolbdakhfcilaaGreatDoor.B
