/-
  Counts: books in plain Lean; a book with some statements, by the law.
-/
import Derived.Test.YtaomfaehgbgdgaaCntO
set_option maxRecDepth 100000
set_option linter.unusedVariables false
set_option linter.unusedSimpArgs false
namespace Go.Proofs.Ytaomfaehgbgdgaa.B
open Go Go.Proofs Go.Proofs.YtaomfaehgbgdgaaEng

theorem addC_front {L M : List (Pl × Nat)} {p : Pl} {m : Nat} (h : ∀ x ∈ L, x.1 ≠ p) : addC (L ++ M) p m = L ++ addC M p m := by
  have hL : p ∉ L.map Prod.fst := fun hh => by
    obtain ⟨x, hx, e⟩ := List.mem_map.1 hh
    exact h x hx e
  unfold addC
  by_cases hM : p ∈ M.map Prod.fst
  · rw [if_pos (by rw [List.map_append]; exact List.mem_append_right _ hM), if_pos hM, List.map_append]
    congr 1
    refine (List.map_congr_left fun x hx => ?_).trans (List.map_id L)
    rw [if_neg (h x hx)]
    rfl
  · rw [if_neg (by rw [List.map_append, List.mem_append]; exact fun hh => hh.elim hL hM), if_neg hM, List.append_assoc]
theorem goneC_front {i : Int} : ∀ {hs : List (Int × Int)} {L M : List (Pl × Nat)}, (∀ x ∈ L, x.1.1 ≠ i) → goneC i hs (L ++ M) = L ++ goneC i hs M
  | [], L, M, h => rfl
  | y :: hs, L, M, h => by
    simp only [goneC]
    rw [addC_front fun x hx e => h x hx (by rw [e])]
    exact goneC_front h
theorem addC_keys {l : List (Pl × Nat)} {p : Pl} {m : Nat} : ∀ x ∈ addC l p m, (∃ y ∈ l, y.1 = x.1) ∨ x.1 = p := by
  intro x hx
  unfold addC at hx
  by_cases h : p ∈ l.map Prod.fst
  · rw [if_pos h] at hx
    obtain ⟨y, hy, rfl⟩ := List.mem_map.1 hx
    refine .inl ⟨y, hy, ?_⟩
    by_cases hp : y.1 = p
    · rw [if_pos hp]
    · rw [if_neg hp]
  · rw [if_neg h] at hx
    rcases List.mem_append.1 hx with hx | hx
    · exact .inl ⟨x, hx, rfl⟩
    · rw [List.mem_singleton.1 hx]; exact .inr rfl
theorem goneC_keys {i : Int} : ∀ {hs : List (Int × Int)} {l : List (Pl × Nat)}, ∀ x ∈ goneC i hs l, (∃ y ∈ l, y.1 = x.1) ∨ (x.1.1 = i ∧ x.1.2.1 = false)
  | [], l, x, hx => .inl ⟨x, hx, rfl⟩
  | h :: hs, l, x, hx => by
    rcases goneC_keys (hs := hs) x hx with ⟨y, hy, e⟩ | e
    · rcases addC_keys y hy with ⟨z, hz, e2⟩ | e2
      · exact .inl ⟨z, hz, e2.trans e⟩
      · right
        rw [← e, e2]
        exact ⟨rfl, rfl⟩
    · exact .inr e
theorem filter_mine {i : Int} {l : List (Pl × Nat)} (h : ∀ x ∈ l, x.1.1 ≠ i) : (l.filter fun x => !mineS i x.1) = l :=
  List.filter_eq_self.2 fun x hx => by simp [mineS, h x hx]
theorem filter_mine' {i : Int} {l : List (Pl × Nat)} (h : ∀ x ∈ l, x.1.1 = i ∧ x.1.2.1 = false) : (l.filter fun x => !mineS i x.1) = [] :=
  List.filter_eq_nil_iff.2 fun x hx => by simp [mineS, h x hx]
/-- what one switch states -/
def blockC (i : Nat) (hs : List (Int × Int)) : List (Pl × Nat) := goneC i hs []
theorem blockC_keys {i : Nat} {hs : List (Int × Int)} : ∀ x ∈ blockC i hs, x.1.1 = (i : Int) ∧ x.1.2.1 = false := fun x hx => by
  rcases goneC_keys x hx with ⟨y, hy, _⟩ | h
  · cases hy
  · exact h
/-- what so many switches state, one behind the other -/
def contA (ls : List (List (Int × Int))) : Nat → List (Pl × Nat)
  | 0 => []
  | k + 1 => contA ls k ++ blockC k (ls.getD k [])
theorem contA_keys {ls : List (List (Int × Int))} : ∀ {k : Nat}, ∀ x ∈ contA ls k, 0 ≤ x.1.1 ∧ x.1.1 < (k : Int) ∧ x.1.2.1 = false
  | 0, x, hx => by cases hx
  | k + 1, x, hx => by
    rcases List.mem_append.1 hx with hx | hx
    · obtain ⟨h1, h2, h3⟩ := contA_keys x hx
      exact ⟨h1, by omega, h3⟩
    · obtain ⟨h1, h2⟩ := blockC_keys x hx
      exact ⟨by omega, by omega, h2⟩
/-- a switch that had stated nothing states something -/
theorem stated_new {l : List (Pl × Nat)} {i : Nat} {hs : List (Int × Int)} (h : ∀ x ∈ l, x.1.1 ≠ (i : Int)) : goneC i hs (l.filter fun x => !mineS i x.1) = l ++ blockC i hs := by
  rw [filter_mine h]
  have := goneC_front (hs := hs) (M := []) h
  rw [List.append_nil] at this
  exact this
/-- .. and states it again -/
theorem stated_again {l : List (Pl × Nat)} {i : Nat} {hs : List (Int × Int)} (h : ∀ x ∈ l, x.1.1 ≠ (i : Int)) : goneC i hs ((l ++ blockC i hs).filter fun x => !mineS i x.1) = l ++ blockC i hs := by
  rw [List.filter_append, filter_mine' (l := blockC i hs) blockC_keys, List.append_nil]
  exact stated_new h
theorem tot1_append (v : Int) (i : Nat) (a b : List (Pl × Nat)) : tot1 v i (a ++ b) = tot1 v i a + tot1 v i b := by
  unfold tot1
  rw [List.filter_append, List.map_append, List.sum_append]
theorem totN_congr {v : Int} {names : List ByteArray} {name : ByteArray} {a b : List (Pl × Nat)} (h : ∀ i, tot1 v i a = tot1 v i b) : ∀ k, totN v names name a k = totN v names name b k
  | 0 => rfl
  | k + 1 => by
    show totN v names name a k + _ = totN v names name b k + _
    rw [totN_congr h k, h k]
/-- rows of held rules, one for each switch -/
def LRow (w : World) (a : Option Addr) (ls : List (List (Int × Int))) : Prop := ∀ (j : Nat) hs, ls[j]? = some hs → ∃ A a' n' c', a = some A ∧ w.cell? (addK A j) = some (.slice a' n' c') ∧ HRow w a' hs ∧ n' = hs.length ∧ n' ≤ 9223372036854775807
theorem LRow.keep {w w' : World} {a : Option Addr} {ls : List (List (Int × Int))} (h : LRow w a ls) (hc : Chg NoS w w') : LRow w' a ls := fun j hs hj => by
  obtain ⟨A, a', n', c', h1, h2, h3, h4⟩ := h j hs hj
  exact ⟨A, a', n', c', h1, cellKeep h2 hc fun _ _ x => x, h3.keep hc, h4⟩
theorem LRow.take {w : World} {a : Option Addr} {ls : List (List (Int × Int))} (h : LRow w a ls) (k : Nat) : LRow w a (ls.take k) := fun j hs hj => by
  rcases Nat.lt_or_ge j k with hjk | hjk
  · rw [List.getElem?_take_of_lt hjk] at hj
    exact h j hs hj
  · rw [List.getElem?_eq_none (by rw [List.length_take]; omega)] at hj
    cases hj
theorem Book_ok {w : World} {na : Option Addr} {nn nc : Nat} {names : List ByteArray} {la : Option Addr} {ln lc : Nat} {ls : List (List (Int × Int))} (hr : Reads w na (names8 names)) (hnn : nn = names.length) (hnb : nn ≤ 1048576) (hl : LRow w la ls) (hln : ln = ls.length) (hlb : ln ≤ 20) :
    Calls Try.prog 13 #[.slice na nn nc, .slice la ln lc] w (endW (fun v w' => ∃ b r q L ve W G, v = .pointer (some ⟨b, 0, none⟩) ∧ Warm w' b r q L [ve] W G ∧ ve.key = 1 ∧ ve.names = names.take 32 ∧ cont L = contA ls ls.length ∧ Chg NoS w w') (fun _ _ => False)) := by
  refine F13_calls na nn nc la ln lc ?_
  delta F13
  refine Calls.then (New_ok w) ?_
  rintro v w1 ⟨rfl, c1, h1⟩
  refine ⟨_, rfl, ?_⟩
  refine Calls.then (Queries_ok (hr.chg c1 fun _ _ x => x) hnn hnb) ?_
  rintro v w2 ⟨a', c', rfl, ho, c2⟩
  refine ⟨_, _, _, rfl, ?_⟩
  have h2 := h1.keep c2 fun _ _ x => x
  obtain ⟨_, _, e', hcap, _⟩ := own_form ho
  injection e' with _ _ e3
  subst e3
  have hcm : c' ≤ 9223372036854775807 := by
    rcases ho.2 with ⟨he, h0⟩ | ⟨g, cap, cur, he, hg, hh, hn, hm, hsz, ht⟩
    · injection he with _ _ h2; omega
    · injection he with _ _ h2; subst h2; unfold maxLen at hm; omega
  refine Calls.then (Policy_ok h2 (by omega) (l := names) (own_reads' ho) hnn hcap hcm) ?_
  rintro v w3 ⟨rfl, W3, G3, r, q, ve, h3, hk3, hn3, c3, u3, v3, x3, y3⟩
  have s1 := c1.size
  have s2 := c2.size
  have hW3 : ∀ k, W3 k → w.heap.size ≤ k := fun k hk => by
    rcases v3 k hk with hk | hk
    · have : k = w.heap.size := hk; omega
    · omega
  have c03 : Chg NoS w w3 := (c1.trans c2).trans2 c3 fun k hk e => by have : k = w.heap.size := e; omega
  refine ⟨fun s w4 => ∃ (j : Nat) (L : List En) (W : Nat → Prop) (r q : Nat), s = j ∧ j ≤ ln ∧ Warm w4 w.heap.size r q L [ve] W G3 ∧ (∀ k, W k → w.heap.size ≤ k) ∧ cont L = contA ls j ∧ Chg NoS w w4, fun s _ => (ln - s).toNat,
    ⟨0, ⟨rfl, trivial⟩, 0, [], W3, r, q, rfl, by omega, h3, hW3, rfl, c03⟩, ?_⟩
  rintro s w4 ⟨j, L, W4, r4, q4, rfl, hj, h4, hW4, e4, c4⟩ _
  by_cases hlt : (j : Int) < ln
  · rw [if_pos (by simpa using hlt)]
    have hjl : j < ls.length := by omega
    obtain ⟨A, a2, n2, c2', hA, hcell, hrow, hn2, hm2⟩ := hl j _ (List.getElem?_eq_getElem hjl)
    refine ⟨by omega, by omega, wSome_of hA ⟨_, _, _, (by rw [Int.toNat_natCast, Nat.mul_one]; exact cellKeep hcell c4 fun _ _ x => x), by omega, ?_⟩⟩
    have hwr : IntKind.wrap .u16 (Int.tmod (j : Int) 60000) = j := by
      have h1 : Int.tmod (j : Int) 60000 = j := Int.tmod_eq_of_lt (by omega) (by omega)
      rw [h1]
      have h2 : (j : Int) % 65536 = j := by omega
      simpa [IntKind.wrap, IntKind.signed, IntKind.bits] using h2
    rw [hwr]
    refine Calls.then (Stated_ok h4.book (sw := j) (by omega) (hs := ls[j]) (fun w' hc => hrow.keep (c4.trans2 hc fun k hk e => by have := hW4 k e; omega)) hn2 hm2) ?_
    rintro v w5 ⟨rfl, L5, W5, r5, q5, h5, c5, u5, v5, e5⟩
    have s4 := c4.size
    refine ⟨(j : Int) + 1, ⟨by rw [i64w _ (by omega) (by omega)], trivial⟩, ⟨j + 1, L5, W5, r5, q5, by omega, by omega, h5, fun k hk => (v5 k hk).elim (hW4 k) fun hk => by omega, ?_, c4.trans2 c5 fun k hk e => by have := hW4 k e; omega⟩, by first | omega | (dsimp only; omega)⟩
    rw [e5, e4, stated_new fun x hx => by have := contA_keys x hx; omega]
    show _ = contA ls j ++ blockC j (ls.getD j [])
    rw [List.getD_eq_getElem?_getD, List.getElem?_eq_getElem hjl]
    rfl
  · rw [if_neg (by simpa using hlt)]
    have hjl : j = ls.length := by omega
    subst hjl
    exact ⟨_, r4, q4, L, ve, W4, G3, rfl, h4, hk3, hn3, e4, c4⟩
end Go.Proofs.Ytaomfaehgbgdgaa.B
