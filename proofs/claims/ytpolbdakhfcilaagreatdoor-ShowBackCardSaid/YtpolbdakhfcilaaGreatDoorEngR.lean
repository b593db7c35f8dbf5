/-
  Rows of stores at once.
-/
import Derived.Test.YtpolbdakhfcilaaGreatDoorEngQ
namespace Go.Proofs.YtpolbdakhfcilaaGreatDoorEng
open Go
set_option linter.unusedSimpArgs false
set_option linter.unusedVariables false
variable {P : Program}

def setAll (cs : Array Value) : Nat → List Value → Array Value
  | _, [] => cs
  | i, v :: vs => setAll (cs.setIfInBounds i v) (i + 1) vs
theorem setAll_size : ∀ (vs : List Value) (cs : Array Value) (i : Nat), (setAll cs i vs).size = cs.size
  | [], cs, i => rfl
  | v :: vs, cs, i => by
    unfold setAll
    rw [setAll_size vs]
    simp
theorem setAll_get : ∀ (vs : List Value) (cs : Array Value) (i j : Nat), i + vs.length ≤ cs.size → (setAll cs i vs)[j]? = if i ≤ j ∧ j < i + vs.length then vs[j - i]? else cs[j]?
  | [], cs, i, j, h => by
    unfold setAll
    rw [if_neg (by simp only [List.length_nil]; omega)]
  | v :: vs, cs, i, j, h => by
    simp only [List.length_cons] at h
    unfold setAll
    rw [setAll_get vs (cs.setIfInBounds i v) (i + 1) j (by simp; omega)]
    simp only [List.length_cons]
    by_cases h1 : i + 1 ≤ j ∧ j < i + 1 + vs.length
    · rw [if_pos h1, if_pos (by omega), show j - i = (j - (i + 1)) + 1 from by omega, List.getElem?_cons_succ]
    · rw [if_neg h1]
      by_cases h2 : j = i
      · subst h2
        rw [if_pos (by omega), Array.getElem?_setIfInBounds_self_of_lt (by omega), Nat.sub_self, List.getElem?_cons_zero]
      · rw [if_neg (by omega), Array.getElem?_setIfInBounds_ne (by omega)]
theorem setAll_whole {vs : List Value} {cs : Array Value} (h : cs.size = vs.length) : setAll cs 0 vs = vs.toArray := by
  apply Array.ext_getElem?
  intro j
  rw [setAll_get vs cs 0 j (by omega)]
  by_cases hj : j < vs.length
  · rw [if_pos (by omega)]
    simp
  · rw [if_neg (by omega), Array.getElem?_eq_none (by omega), Array.getElem?_eq_none (by simp; omega)]
theorem sets_part {b : Nat} {t : TypeId} : ∀ (vs : List Value) (i : Nat) (cs : Array Value) {w : World} {K : World → Prop}, w.heap[b]? = some (.cells cs t (0, 0)) → i + vs.length ≤ cs.size → (∀ v ∈ vs, oneC v = true) →
    (∀ w', w'.heap[b]? = some (.cells (setAll cs i vs) t (0, 0)) → Chg (OnlyB b) w w' → w'.heap.size = w.heap.size → K w') → setsW vs w ⟨b, 0, none⟩ i K
  | [], i, cs, w, K, h, hl, hv, hK => hK w h (Chg.refl _ _) rfl
  | v :: vs, i, cs, w, K, h, hl, hv, hK => by
    simp only [List.length_cons] at hl
    unfold setsW
    rw [addK_lit, Nat.zero_add]
    refine setW_blk h (by omega) (hv v (List.mem_cons_self ..)) fun w1 b1 c1 s1 => ?_
    refine sets_part vs (i + 1) _ b1 (by simp; omega) (fun u hu => hv u (List.mem_cons_of_mem _ hu)) fun w2 b2 c2 s2 => ?_
    exact hK w2 b2 (c1.trans c2) (by omega)
/-- all the cells of a block are written -/
theorem sets_blk {b : Nat} {t : TypeId} {vs : List Value} {cs : Array Value} {w : World} {K : World → Prop} (h : w.heap[b]? = some (.cells cs t (0, 0))) (hl : cs.size = vs.length) (hv : ∀ v ∈ vs, oneC v = true)
    (hK : ∀ w', w'.heap[b]? = some (.cells vs.toArray t (0, 0)) → Chg (OnlyB b) w w' → w'.heap.size = w.heap.size → K w') : setsW vs w ⟨b, 0, none⟩ 0 K :=
  sets_part vs 0 cs h (by omega) hv fun w' b' c' s' => hK w' (by rw [setAll_whole hl] at b'; exact b') c' s'
/-- append to a row of the call's own, whatever it is made of -/
theorem row_append {t tx ty e e' : TypeId} {z : Value} {size bytes base n m c : Nat} {v : Value} {a : Option Addr} {xs news : List Value} {w : World} {K : Value → World → Prop} {E : PanW}
    (ht : P.underlying t = some (.slice e)) (htx : P.underlying tx = some (.slice e')) (hi : (P.info? e).map (fun i => (i.zero, i.size, i.bytes)) = some (some z, size, bytes)) (hzs : z.cells.size = size)
    (ho : w.ownsRow base e size v n xs) (hl : news.length = m * size) (hr : Reads w a news) (h0 : a = none → m = 0) (h1 : ∀ u ∈ news, u.oneCell' = true) (hb : (n + m) * bytes ≤ 140737488355328) (hb2 : n + m ≤ 140737488355328) (hbase : base ≤ w.heap.size)
    (h : ∀ a' c' w', w'.ownsRow base e size (.slice a' (n + m) c') (n + m) (xs ++ news) → Chg (fun k => v.ownBlock = some k) w w' → (∀ k, (Value.slice a' (n + m) c').ownBlock = some k → v.ownBlock = some k ∨ w.heap.size ≤ k) → K (.slice a' (n + m) c') w') :
    runV P (Builtin.append_ #[t, tx] ty #[v, .slice a m c]) w K E := by
  obtain ⟨i, hi, hz, hs, hby⟩ := info_open' hi
  refine append_own (base := base) (n := n) (m := m) ht hi hz hs hzs ho (src_slice htx hl hr h0 h1) (by rw [hby]; exact hb) hb2 hbase ?_
  intro v' w' ho' hc hb1 hb2
  obtain ⟨a', c', rfl, _, _⟩ := own_form ho'
  refine h a' c' w' ho' hc fun k hk => ?_
  rcases hb1 with e | e
  · exact .inl (e ▸ hk)
  · rw [e] at hk; exact .inr (by have := Option.some.inj hk; omega)
end Go.Proofs.YtpolbdakhfcilaaGreatDoorEng
