/-
  line: rows that came in; small, fits, sent.
-/
import Derived.Test.YtooebmpjmcmkoaaLinQ
import Derived.Test.YtooebmpjmcmkoaaBC
set_option maxRecDepth 100000
set_option linter.unusedVariables false
set_option linter.unusedSimpArgs false
namespace Go.Proofs.Ytooebmpjmcmkoaa.B
open Go Go.Proofs Go.Proofs.YtooebmpjmcmkoaaEng

abbrev No : Nat → Prop := fun _ => False
theorem row_of_is {B : Nat} {w : World} {m : Nat} {cs : List Value} (h : Is B Try.prog w (m + 2) 31 cs) : ∃ v bs, cs = [v] ∧ RowIn w No v bs ∧ bs.length ≤ B := by
  obtain ⟨a', n', c', e, h1, h2, h3, _⟩ := h.ints Try.underlying31 Try.underlying5 (by kernel_rfl)
  subst e
  obtain ⟨bs, hb, hc, hB, h0, hr⟩ := S.bytes_of_is h
  exact ⟨_, bs, rfl, ⟨a', c', by rw [hb], by omega, by rw [hb]; exact h0, hr, fun A e hz hx => hx⟩, by omega⟩
theorem rows_build {B : Nat} {w : World} {m : Nat} : ∀ (css : List (List Value)), (∀ cs ∈ css, Is B Try.prog w (m + 2) 31 cs) → ∃ vs ls, BRows w No vs ls ∧ ls.length = css.length ∧ (∀ (j : Nat) v, vs[j]? = some v → css[j]? = some [v]) ∧ ∀ l ∈ ls, l.length ≤ B
  | [], h => ⟨[], [], trivial, rfl, fun j v hv => by simp at hv, fun l hl => by cases hl⟩
  | cs :: css, h => by
    obtain ⟨v, bs, rfl, hr, hB⟩ := row_of_is (h _ List.mem_cons_self)
    obtain ⟨vs, ls, h1, h2, h3, h4⟩ := rows_build css fun x hx => h x (List.mem_cons_of_mem _ hx)
    refine ⟨v :: vs, bs :: ls, ⟨hr, h1⟩, by simp [h2], fun j u hu => ?_, fun l hl => ?_⟩
    · cases j with
      | zero => simp at hu; subst hu; rfl
      | succ j => simp at hu ⊢; exact h3 j u hu
    · rcases List.mem_cons.1 hl with rfl | hl
      · exact hB
      · exact h4 l hl
theorem rows_of_is {B : Nat} {w : World} {m : Nat} {a : Option Addr} {n c : Nat} (h : Is B Try.prog w (m + 3) 30 [.slice a n c]) : ∃ vs ls, Reads w a vs ∧ BRows w No vs ls ∧ ls.length = n ∧ n ≤ B ∧ ∀ l ∈ ls, l.length ≤ B := by
  obtain ⟨a', n', c', e, h1, h2, h3, css, h4, h5, h6⟩ := is_rows (c := 1) und30 (by kernel_rfl) (by omega) h
  injection e with e _
  injection e with e1 e2 e3
  subst e1 e2 e3
  obtain ⟨vs, ls, g1, g2, g3, g4⟩ := rows_build css fun cs hcs => by
    obtain ⟨j, hj⟩ := List.getElem?_of_mem hcs
    exact (h5 j cs hj).1
  refine ⟨vs, ls, fun j u hu => ?_, g1, by omega, by omega, g4⟩
  obtain ⟨A, hA, hc⟩ := h6 j [u] 0 u (g3 j u hu) rfl
  exact ⟨A, hA, by simpa [addK_zero] using hc⟩

theorem small_ok {w : World} {a : Option Addr} {c : Nat} {vs : List Value} {ls : List (List UInt8)} (hr : Reads w a vs) (hb : BRows w No vs ls) (hl : ls.length ≤ maxLen) :
    Calls Try.prog 23 #[.slice a ls.length c] w (endW (fun v w' => (∃ b, v = .bool b ∧ (b = true → ls.length ≤ 60 ∧ ∀ l ∈ ls, l.length ≤ 4096)) ∧ w' = w) (fun _ _ => False)) := by
  refine F23_calls _ _ _ ?_
  delta F23
  refine ⟨fun s w' => w' = w ∧ ∃ i : Nat, s = (i : Int) ∧ i ≤ ls.length ∧ i ≤ 61 ∧ ∀ l ∈ ls.take i, l.length ≤ 4096, fun s _ => (61 - s).toNat, ⟨0, ⟨rfl, trivial⟩, rfl, 0, rfl, by omega, by omega, by simp⟩, ?_⟩
  rintro s w1 ⟨rfl, i, rfl, hi, hi2, hok⟩ _
  by_cases hlt : i < ls.length
  · rw [if_pos (by simp; omega)]
    by_cases h60 : i ≤ 60
    · rw [if_pos (by simp; omega)]
      obtain ⟨v, hv, hrow⟩ := hb.get (List.getElem?_eq_getElem hlt)
      obtain ⟨A, rfl, hcell⟩ := hr i _ hv
      obtain ⟨ra, rc, rfl, _⟩ := id hrow
      refine ⟨by omega, by omega, wSome_of rfl ⟨_, _, _, by rw [Int.toNat_natCast, Nat.mul_one]; exact hcell, ?_⟩⟩
      by_cases hb4 : ls[i].length > 4096
      · rw [if_pos (by simp; omega)]
        exact ⟨⟨false, rfl, fun h => by cases h⟩, rfl⟩
      · rw [if_neg (by simp; omega)]
        refine ⟨((i + 1 : Nat) : Int), ⟨by rw [i64w _ (by omega) (by omega)]; rfl, trivial⟩, ⟨rfl, i + 1, rfl, by omega, by omega, ?_⟩, by dsimp only; omega⟩
        intro l hl
        rw [← List.take_append_getElem hlt] at hl
        rcases List.mem_append.1 hl with hl | hl
        · exact hok l hl
        · simp at hl; subst hl; omega
    · rw [if_neg (by simp; omega)]
      exact ⟨⟨_, rfl, fun h => by simp at h; omega⟩, rfl⟩
  · rw [if_neg (by simp; omega)]
    have : i = ls.length := by omega
    subst this
    rw [List.take_length] at hok
    exact ⟨⟨_, rfl, fun h => by simp at h; exact ⟨by omega, hok⟩⟩, rfl⟩

theorem fits_ok {w : World} {a : Option Addr} {c : Nat} {vs : List Value} {ls : List (List UInt8)} (hr : Reads w a vs) (hb : BRows w No vs ls) (hl : ls.length ≤ 60) (hl4 : ∀ l ∈ ls, l.length ≤ 4096) :
    Calls Try.prog 26 #[.slice a ls.length c] w (endW (fun v w' => (∃ b, v = .bool b ∧ (b = true → ls.length ≤ 30 ∧ 14 + (body ls).length ≤ 16384)) ∧ w' = w) (fun _ _ => False)) := by
  refine F26_calls _ _ _ ?_
  delta F26
  refine ⟨fun s w' => w' = w ∧ ∃ i : Nat, s = (((14 + (body (ls.take i)).length : Nat) : Int), (i : Int)) ∧ i ≤ ls.length ∧ (body (ls.take i)).length ≤ i * 4098, fun s _ => (61 - s.2).toNat, ⟨(14, 0), ⟨rfl, rfl, trivial⟩, rfl, 0, rfl, by omega, by simp [body]⟩, ?_⟩
  rintro s w1 ⟨rfl, i, rfl, hi, hok⟩ _
  dsimp only
  by_cases hlt : i < ls.length
  · rw [if_pos (by simp; omega)]
    obtain ⟨v, hv, hrow⟩ := hb.get (List.getElem?_eq_getElem hlt)
    obtain ⟨A, rfl, hcell⟩ := hr i _ hv
    obtain ⟨ra, rc, rfl, _⟩ := id hrow
    have h4 := hl4 _ (List.getElem_mem hlt)
    have e : (body (ls.take (i + 1))).length = (body (ls.take i)).length + 2 + ls[i].length := by
      rw [← List.take_append_getElem hlt, body_snoc]; simp [be2]; omega
    have hmul : (i + 1) * 4098 = i * 4098 + 4098 := by omega
    refine ⟨by omega, by omega, wSome_of rfl ⟨_, _, _, by rw [Int.toNat_natCast, Nat.mul_one]; exact hcell, ((((14 + (body (ls.take (i + 1))).length : Nat) : Int)), ((i + 1 : Nat) : Int)), ⟨?_, ?_, trivial⟩, ⟨rfl, i + 1, rfl, by omega, by omega⟩, by dsimp only; omega⟩⟩
    · rw [i64w (((14 + (body (ls.take i)).length : Nat) : Int) + 2) (by omega) (by omega), i64w _ (by omega) (by omega), e]
      congr 1; omega
    · rw [i64w _ (by omega) (by omega)]; rfl
  · rw [if_neg (by simp; omega)]
    have : i = ls.length := by omega
    subst this
    rw [List.take_length]
    by_cases h30 : ls.length ≤ 30
    · rw [if_pos (by simp; omega)]
      exact ⟨⟨_, rfl, fun h => by simp at h; omega⟩, rfl⟩
    · rw [if_neg (by simp; omega)]
      exact ⟨⟨_, rfl, fun h => by cases h⟩, rfl⟩

theorem sent_ok {w0 w : World} {X : Nat → Prop} {ms : Ents} {i p : Nat} {t : TypeId} {m : Lm} {a : Option Addr} {c : Nat} {vs : List Value} {ls : List (List UInt8)} (h : Ent w0 w X ms) (hi : ms i = some (t, p, m)) (hr : Reads w0 a vs) (hb : BRows w0 No vs ls)
    (hl4 : ∀ l ∈ ls, l.length ≤ 8192) (hl : m.sent.length + ls.length ≤ 4096) :
    Calls Try.prog 24 #[.pointer (some ⟨p, 0, none⟩), .slice a ls.length c] w (endW (fun v w' => v = .bool true ∧ ∃ X' ms', Ent w0 w' X' ms' ∧ ms' i = some (t, p, { m with sent := m.sent ++ ls }) ∧ (∀ j, j ≠ i → ms' j = ms j) ∧ Keeps w X w' X' ∧ (∀ k, X' k → X k ∨ w.heap.size ≤ k)) (fun _ _ => False)) := by
  refine F24_calls _ _ _ _ ?_
  delta F24
  refine ⟨fun s w' => ∃ (k : Nat) (X' : Nat → Prop) (ms' : Ents), s = (k : Int) ∧ k ≤ ls.length ∧ Ent w0 w' X' ms' ∧ ms' i = some (t, p, { m with sent := m.sent ++ ls.take k }) ∧ (∀ j, j ≠ i → ms' j = ms j) ∧ Keeps w X w' X' ∧ (∀ k, X' k → X k ∨ w.heap.size ≤ k) ∧ w.heap.size ≤ w'.heap.size,
    fun s _ => (ls.length - s).toNat, ⟨0, ⟨rfl, trivial⟩, 0, X, ms, rfl, by omega, h, by simpa using hi, fun j _ => rfl, fun v bs h => h, fun k hk => .inl hk, Nat.le_refl _⟩, ?_⟩
  rintro s w1 ⟨k, X1, ms1, rfl, hk, h1, hi1, ho1, hk1, hg1, hcc1⟩ _
  by_cases hlt : k < ls.length
  · rw [if_pos (by simp; omega)]
    have hc1 := h1.ch
    obtain ⟨v, hv, hrow⟩ := hb.get (List.getElem?_eq_getElem hlt)
    obtain ⟨A, rfl, hcell⟩ := hr k _ hv
    obtain ⟨ra, rc, rfl, _⟩ := id hrow
    have h4 := hl4 _ (List.getElem_mem hlt)
    obtain ⟨q1, q2, q3, q4⟩ := RowIn.rd (hrow.chg hc1 fun k _ h => h.elim)
    refine ⟨by omega, by omega, wSome_of rfl ⟨_, _, _, by rw [Int.toNat_natCast, Nat.mul_one]; exact hc1.sameOld.cell hcell, ?_⟩⟩
    have hse : (m.sent ++ ls.take k).length = m.sent.length + k := by rw [List.length_append, List.length_take]; omega
    refine Calls.then (h1.send hi1 (by rw [hse]; omega) rfl q1 q4) ?_
    rintro v w2 ⟨rfl, X2, h2, hk2, hc2, hg2⟩
    have e : ({ m with sent := m.sent ++ ls.take k } : Lm).send ls[k] = (0, { m with sent := m.sent ++ ls.take (k + 1) }) := by
      unfold Lm.send
      rw [if_neg (by omega), if_neg (by rw [hse]; omega), ← List.take_append_getElem hlt, List.append_assoc]
    rw [e] at h2 ⊢
    refine ⟨_, rfl, ?_⟩
    rw [if_neg (by simp)]
    refine ⟨((k + 1 : Nat) : Int), ⟨by rw [i64w _ (by omega) (by omega)]; rfl, trivial⟩, ⟨k + 1, X2, _, rfl, by omega, h2, upd_same, fun j hj => by rw [upd_other hj]; exact ho1 j hj, fun v bs h => hk2 v bs (hk1 v bs h), fun k hk => (hg2 k hk).elim (hg1 k) fun h => .inr (by omega), by have := hc2.size; omega⟩, by dsimp only; omega⟩
  · rw [if_neg (by simp; omega)]
    have : k = ls.length := by omega
    subst this
    rw [List.take_length] at hi1
    exact ⟨rfl, X1, ms1, h1, hi1, ho1, hk1, hg1⟩
end Go.Proofs.Ytooebmpjmcmkoaa.B
