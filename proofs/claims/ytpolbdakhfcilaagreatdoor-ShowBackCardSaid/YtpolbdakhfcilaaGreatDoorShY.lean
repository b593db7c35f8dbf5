/-
  show: what is read is bare; ShowAgain walked.
-/
import Derived.Test.YtpolbdakhfcilaaGreatDoorShX
import Derived.Test.YtpolbdakhfcilaaGreatDoorShQ
import Derived.Test.YtpolbdakhfcilaaGreatDoorPaP
import Derived.Test.YtpolbdakhfcilaaGreatDoorBR
set_option maxRecDepth 100000
set_option linter.unusedVariables false
set_option linter.unusedSimpArgs false
namespace Go.Proofs.YtpolbdakhfcilaaGreatDoor.B
open Go Go.Proofs Go.Proofs.YtpolbdakhfcilaaGreatDoorEng Go.RowKit

def Bare (t : Tm) : Prop := bareT t = t ∧ nnT t
theorem bareL_of : ∀ {l : List Tm}, (∀ t ∈ l, Bare t) → bareL l = l ∧ nnL l
  | [], _ => ⟨rfl, trivial⟩
  | t :: l, h => by
    have h1 := h t (by simp)
    have h2 := bareL_of fun x hx => h x (List.mem_cons_of_mem _ hx)
    simp only [bareL, nnL]
    exact ⟨by rw [h1.1, h2.1], h1.2, h2.2⟩
theorem Bare.mk {op : Int} {l : List Tm} (h : ∀ t ∈ l, Bare t) : Bare (.mk op 0 0 l) := by
  have := bareL_of h
  refine ⟨?_, ?_⟩
  · simp only [bareT]
    rw [this.1]
    simp
  · simp only [nnT]
    exact ⟨by omega, by omega, this.2⟩
theorem Bare.row {k : Rw} : ∀ {l : List Tm}, (∀ t ∈ l, Bare t) → Bare (mkRow k l)
  | [], h => Bare.mk h
  | [t], h => h t (by simp)
  | t :: u :: l, h => Bare.mk h
theorem Bare.one {op : Int} {t : Tm} (h : Bare t) : Bare (.mk op 0 0 [t]) := Bare.mk fun x hx => by rw [List.mem_singleton.1 hx]; exact h
theorem Bare.nil (op : Int) : Bare (.mk op 0 0 []) := Bare.mk fun x hx => by simp at hx
def LvB : Lv → Prop
  | .rest _ acc => ∀ t ∈ acc, Bare t
  | .stars t => Bare t
  | _ => True
theorem pair_bare {ws : List Wd} (hws : ∀ x ∈ ws, x.num ≤ 18446744073709551615) {op : Nat} (hop : op = 2 ∨ op = 7) {sg : List UInt8} {i j : Nat} {t : Tm} (h : pairS ws op sg i = .ok t j) : Bare t := by
  obtain ⟨x, y, f, h1, h2, h3, h4, h5, h6, h7, rfl, rfl⟩ := pairS_ok h
  have hy := hws y (List.mem_of_getElem? h6)
  refine ⟨?_, ?_⟩
  · simp only [bareT, bareL]
    have : ((op : Nat) : Int) = 2 ∨ ((op : Nat) : Int) = 7 := by omega
    rw [if_pos this, if_pos this]
  · simp only [nnT, nnL]
    exact ⟨by omega, by omega, trivial⟩
theorem pa_bare {ws : List Wd} (hws : ∀ x ∈ ws, x.num ≤ 18446744073709551615) : ∀ (f : Nat) (lv : Lv) (i : Nat) (t : Tm) (j : Nat), LvB lv → pa ws f lv i = .ok t j → Bare t := by
  intro f
  induction f with
  | zero => intro lv i t j _ h; cases h
  | succ f ih =>
    have ih' : ∀ {lv : Lv} {i : Nat} {t : Tm} {j : Nat}, pa ws f lv i = .ok t j → LvB lv → Bare t := fun h1 h2 => ih _ _ _ _ h2 h1
    have part : ∀ k : Rw, LvB k.part := fun k => by cases k <;> trivial
    intro lv i t j hl hp
    cases lv with
    | row k =>
      rw [pa] at hp
      obtain ⟨t1, j1, h1, h2⟩ := next_ok_inv hp
      have b1 := ih _ _ _ _ (part k) h1
      exact ih (.rest k [t1]) _ _ _ (fun x hx => by rw [List.mem_singleton.1 hx]; exact b1) h2
    | rest k acc =>
      rw [pa] at hp
      split at hp
      · obtain ⟨t1, j1, h1, h2⟩ := next_ok_inv hp
        have b1 := ih _ _ _ _ (part k) h1
        refine ih (.rest k (acc ++ [t1])) _ _ _ (fun x hx => ?_) h2
        rcases List.mem_append.1 hx with hx | hx
        · exact hl x hx
        · rw [List.mem_singleton.1 hx]; exact b1
      · injection hp with h1 h2
        rw [← h1]
        exact Bare.row hl
    | star =>
      rw [pa] at hp
      obtain ⟨t1, j1, h1, h2⟩ := next_ok_inv hp
      exact ih (.stars t1) _ _ _ (ih' h1 trivial) h2
    | stars t0 =>
      rw [pa] at hp
      split at hp
      · exact ih (.stars _) _ _ _ (Bare.one hl) hp
      · injection hp with h1 h2
        rw [← h1]
        exact hl
    | not =>
      rw [pa] at hp
      split at hp
      · obtain ⟨t1, j1, h1, h2⟩ := next_ok_inv hp
        injection h2 with h3 h4
        rw [← h3]
        exact Bare.one (ih' h1 trivial)
      split at hp
      · injection hp with h3 h4; rw [← h3]; exact Bare.nil 1
      split at hp
      · injection hp with h3 h4; rw [← h3]; exact Bare.nil 0
      split at hp
      · obtain ⟨t1, j1, h1, h2⟩ := next_ok_inv hp
        obtain ⟨_, e, _⟩ := closeS_ok h2
        rw [e]
        exact ih' h1 trivial
      exact pair_bare hws (.inl rfl) hp
    | atom =>
      rw [pa] at hp
      split at hp
      · obtain ⟨t1, j1, h1, h2⟩ := next_ok_inv hp
        injection h2 with h3 h4
        rw [← h3]
        exact Bare.one (ih' h1 trivial)
      split at hp
      · injection hp with h3 h4; rw [← h3]; exact Bare.one (Bare.nil 1)
      split at hp
      · injection hp with h3 h4; rw [← h3]; exact Bare.one (Bare.nil 0)
      split at hp
      · obtain ⟨t1, j1, h1, h2⟩ := next_ok_inv hp
        obtain ⟨_, e, _⟩ := closeS_ok h2
        rw [e]
        exact ih' h1 trivial
      split at hp
      · obtain ⟨t1, j1, h1, h2⟩ := next_ok_inv hp
        split at h2
        · obtain ⟨t2, j2, h3, h4⟩ := next_ok_inv h2
          split at h4
          · obtain ⟨t3, j3, h5, h6⟩ := next_ok_inv h4
            injection h6 with h7 h8
            rw [← h7]
            have b1 := ih' h1 trivial
            have b2 := ih' h3 trivial
            have b3 := ih' h5 trivial
            have two : ∀ {a b : Tm}, Bare a → Bare b → ∀ t ∈ [a, b], Bare t := fun ha hb t ht => by
              simp only [List.mem_cons, List.not_mem_nil, or_false] at ht
              rcases ht with rfl | rfl
              · exact ha
              · exact hb
            exact Bare.mk (two (Bare.mk (two (Bare.one b1) b2)) (Bare.mk (two (Bare.one (Bare.one b1)) b3)))
          · cases h4
        · cases h2
      exact pair_bare hws (.inr rfl) hp
theorem Pa.bare {ws : List Wd} (hws : ∀ x ∈ ws, x.num ≤ 18446744073709551615) {k : Rw} {i j : Nat} {t : Tm} (h : Pa ws (.row k) i (.ok t j)) : Bare t := by
  obtain ⟨_, f, hf⟩ := h
  exact pa_bare hws f (.row k) _ _ _ trivial hf
theorem Qs_bare {ws : List Wd} (hws : ∀ x ∈ ws, x.num ≤ 18446744073709551615) {i e : Nat} {l : List (List UInt8 × Tm)} {b : Bool} (h : QsR ws i l e b) : ∀ q ∈ l, Bare q.2 := by
  induction h with
  | stop _ => simp
  | bad _ _ => simp
  | go h1 h2 h3 _ ih =>
    intro q hq
    rcases List.mem_cons.1 hq with rfl | hq
    · unfold Qa at h3
      rw [h2] at h3
      dsimp only at h3
      split at h3
      · split at h3
        · exact h3.bare hws
        · cases h3
      · cases h3
    · exact ih q hq
theorem read_bare {t : List UInt8} {m : Tm} {q : List (List UInt8 × Tm)} (h : PolP t (.ok m q)) : Bare m ∧ ∀ x ∈ q, Bare x.2 := by
  unfold PolP at h
  cases hall : allR t with
  | inr x => rw [hall] at h; cases h
  | inl ws =>
    rw [hall] at h
    obtain ⟨_, r, rfl, _, hg, _⟩ := allR_good hall
    have hws : ∀ x ∈ r ++ [(⟨0, [], 0, t.length⟩ : Wd)], x.num ≤ 18446744073709551615 := fun x hx => by
      rcases List.mem_append.1 hx with hx | hx
      · exact (hg x hx).1
      · rw [List.mem_singleton.1 hx]; exact Nat.zero_le _
    rcases h with ⟨j, x, _, _, h3⟩ | ⟨t', j, l, e, b, x, h1, h2, h3, h4⟩
    · cases h3
    · unfold endS at h4
      split at h4
      · split at h4
        · injection h4 with h5 h6
          subst h5; subst h6
          exact ⟨h1.bare hws, Qs_bare hws h2⟩
        · cases h4
      · cases h4
theorem bsQ_back : ∀ {q : List (List UInt8 × Tm)}, (∀ x ∈ q, Bare x.2) → (bsQ q).map (fun x => (nmL x, bareT x.2)) = q
  | [], _ => rfl
  | x :: q, h => by
    have h1 := bsQ_back fun y hy => h y (List.mem_cons_of_mem _ hy)
    have h2 := (h x (by simp)).1
    unfold bsQ at h1 ⊢
    simp only [List.map_cons]
    rw [h1]
    congr 1
    obtain ⟨a, b⟩ := x
    simp only [nmL] at h2 ⊢
    rw [h2]
end Go.Proofs.YtpolbdakhfcilaaGreatDoor.B
