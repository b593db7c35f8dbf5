/-
  Policies: the law PolicyOwn.
-/
import Derived.Test.YtbpckcmejkcciaaPolZd
set_option maxRecDepth 100000
set_option linter.unusedVariables false
set_option linter.unusedSimpArgs false
namespace Go.Proofs.Ytbpckcmejkcciaa.B
open Go Go.Proofs Go.Proofs.YtbpckcmejkcciaaEng

theorem flatQ_set : ∀ {us : List VQ} {j : Nat} {q : VQ}, j < us.length → flatQ (us.set j q) = (flatQ us).take (j * 5) ++ qcells q ++ (flatQ us).drop (j * 5 + 5)
  | [], j, q, h => by simp at h
  | x :: us, 0, q, _ => by
    show qcells q ++ flatQ us = [] ++ qcells q ++ (qcells x ++ flatQ us).drop 5
    simp [qcells]
  | x :: us, j + 1, q, h => by
    have ih := flatQ_set (us := us) (j := j) (q := q) (by simpa using h)
    show qcells x ++ flatQ (us.set j q) = (qcells x ++ flatQ us).take ((j + 1) * 5) ++ qcells q ++ (qcells x ++ flatQ us).drop ((j + 1) * 5 + 5)
    rw [ih]
    have e1 : (qcells x ++ flatQ us).take ((j + 1) * 5) = qcells x ++ (flatQ us).take (j * 5) := by
      rw [show (j + 1) * 5 = (qcells x).length + j * 5 from by simp [qcells]; omega, List.take_length_add_append]
    have e2 : (qcells x ++ flatQ us).drop ((j + 1) * 5 + 5) = (flatQ us).drop (j * 5 + 5) := by
      rw [show (j + 1) * 5 + 5 = (qcells x).length + (j * 5 + 5) from by simp [qcells]; omega, List.drop_length_add_append]
    rw [e1, e2]
    simp
abbrev zeroQ : VQ := (⟨#[]⟩, ⟨0, 0, 0, none, 0, 0⟩)
/-- five cells of a row of the call's own are written -/
theorem rowQ_set {w : World} {base g n c j : Nat} {us : List VQ} {K : World → Prop} (ho : w.ownsRow base 40 5 (.slice (some ⟨g, 0, none⟩) n c) n (flatQ us)) (hj : j < us.length)
    (hK : ∀ w', w'.ownsRow base 40 5 (.slice (some ⟨g, 0, none⟩) n c) n (flatQ (us.set j zeroQ)) → Chg (OnlyB g) w w' → w'.heap.size = w.heap.size → K w') :
    setW w (addK (addK ⟨g, 0, none⟩ (j * 5)) 0) (.string ⟨#[]⟩) fun w1 => setW w1 (addK (addK ⟨g, 0, none⟩ (j * 5)) 1) (.int .i8 0) fun w2 => setW w2 (addK (addK ⟨g, 0, none⟩ (j * 5)) 2) (.int .i8 0) fun w3 => setW w3 (addK (addK ⟨g, 0, none⟩ (j * 5)) 3) (.int .u64 0) fun w4 => setW w4 (addK (addK ⟨g, 0, none⟩ (j * 5)) 4) (.slice none 0 0) K := by
  have hl := flatQ_length us
  have hn : us.length = n := by
    have h1 := ho.1
    omega
  simp only [addK_addK, addK_lit, Nat.zero_add]
  refine setW_own ho (by omega) rfl fun w1 o1 c1 s1 => ?_
  refine setW_own o1 (by omega) rfl fun w2 o2 c2 s2 => ?_
  refine setW_own o2 (by omega) rfl fun w3 o3 c3 s3 => ?_
  refine setW_own o3 (by omega) rfl fun w4 o4 c4 s4 => ?_
  refine setW_own o4 (by omega) rfl fun w5 o5 c5 s5 => ?_
  refine hK w5 ?_ ((((c1.trans c2).trans c3).trans c4).trans c5) (by omega)
  have e : ((((((flatQ us).set (j * 5 + 0) (.string ⟨#[]⟩)).set (j * 5 + 1) (.int .i8 0)).set (j * 5 + 2) (.int .i8 0)).set (j * 5 + 3) (.int .u64 0)).set (j * 5 + 4) (.slice none 0 0)) = flatQ (us.set j zeroQ) := by
    rw [flatQ_set hj]
    generalize hL : flatQ us = L at *
    apply List.ext_getElem?
    intro i
    have hlen : j * 5 + 5 ≤ L.length := by omega
    simp only [List.getElem?_set, List.length_set, List.append_assoc]
    rcases Nat.lt_or_ge i (j * 5) with h1 | h1
    · rw [if_neg (by omega), if_neg (by omega), if_neg (by omega), if_neg (by omega), if_neg (by omega), List.getElem?_append_left (by rw [List.length_take]; omega), List.getElem?_take_of_lt h1]
    · rw [List.getElem?_append_right (by rw [List.length_take]; omega), List.length_take, Nat.min_eq_left (by omega)]
      rcases Nat.lt_or_ge i (j * 5 + 5) with h2 | h2
      · rw [List.getElem?_append_left (by simp [qcells]; omega)]
        rcases (show i = j * 5 ∨ i = j * 5 + 1 ∨ i = j * 5 + 2 ∨ i = j * 5 + 3 ∨ i = j * 5 + 4 by omega) with h | h | h | h | h
        · subst h
          rw [if_neg (by omega), if_neg (by omega), if_neg (by omega), if_neg (by omega), if_pos (by omega), if_pos (by omega), Nat.sub_self]
          rfl
        · subst h
          rw [if_neg (by omega), if_neg (by omega), if_neg (by omega), if_pos (by omega), if_pos (by omega), show j * 5 + 1 - j * 5 = 1 from by omega]
          rfl
        · subst h
          rw [if_neg (by omega), if_neg (by omega), if_pos (by omega), if_pos (by omega), show j * 5 + 2 - j * 5 = 2 from by omega]
          rfl
        · subst h
          rw [if_neg (by omega), if_pos (by omega), if_pos (by omega), show j * 5 + 3 - j * 5 = 3 from by omega]
          rfl
        · subst h
          rw [if_pos (by omega), if_pos (by omega), show j * 5 + 4 - j * 5 = 4 from by omega]
          rfl
      · rw [if_neg (by omega), if_neg (by omega), if_neg (by omega), if_neg (by omega), if_neg (by omega), List.getElem?_append_right (by simp [qcells]; omega), List.getElem?_drop]
        congr 1
        simp [qcells]
        omega
  rw [← e]
  exact o5
end Go.Proofs.Ytbpckcmejkcciaa.B
