/-
  Counts: the law's wakes.
-/
import Derived.Test.YtaomfaehgbgdgaaCntL
import Derived.Test.YtaomfaehgbgdgaaBB
set_option maxRecDepth 100000
set_option linter.unusedVariables false
set_option linter.unusedSimpArgs false
namespace Go.Proofs.Ytaomfaehgbgdgaa.B
open Go Go.Proofs Go.Proofs.YtaomfaehgbgdgaaEng

def flatH (hs : List (Int × Int)) : List Value := hs.flatMap fun h => heldV h.1 h.2
theorem flatH_length : ∀ hs : List (Int × Int), (flatH hs).length = hs.length * 27
  | [] => rfl
  | h :: hs => by
    have := flatH_length hs
    unfold flatH at this ⊢
    rw [List.flatMap_cons, List.length_append, this, List.length_cons]
    show 27 + _ = _
    omega
theorem flatH_get : ∀ (hs : List (Int × Int)) (j i : Nat) (h : Int × Int), hs[j]? = some h → i < 27 → (flatH hs)[j * 27 + i]? = (heldV h.1 h.2)[i]?
  | [], j, i, h, e, _ => by simp at e
  | x :: hs, 0, i, h, e, hi => by
    simp only [List.getElem?_cons_zero, Option.some.injEq] at e
    subst e
    unfold flatH
    rw [List.flatMap_cons, List.getElem?_append_left (by simp [heldV]; omega)]
    congr 1
    omega
  | x :: hs, j + 1, i, h, e, hi => by
    simp only [List.getElem?_cons_succ] at e
    have := flatH_get hs j i h e hi
    unfold flatH at this ⊢
    rw [List.flatMap_cons, List.getElem?_append_right (by simp [heldV]; omega), ← this]
    congr 1
    simp [heldV]
    omega
theorem hrow_lit {w : World} {g : Nat} {hs : List (Int × Int)} (h : w.heap[g]? = some (.cells (flatH hs).toArray 82 (0, 0))) (hok : ∀ x ∈ hs, 0 ≤ x.1 ∧ x.1 ≤ 18446744073709551615 ∧ 0 ≤ x.2 ∧ x.2 ≤ 18446744073709551615) : HRow w (some ⟨g, 0, none⟩) hs := fun j x hj => by
  obtain ⟨h1, h2, h3, h4⟩ := hok x (List.mem_of_getElem? hj)
  refine ⟨⟨g, 0, none⟩, rfl, heldV x.1 x.2, heldV_is h1 h2 h3 h4, fun i v hv => ?_⟩
  have hi : i < 27 := (List.getElem?_eq_some_iff.1 hv).1
  rw [addK_lit, addK_lit, cell_blk h, List.getElem?_toArray, Nat.zero_add, flatH_get hs j i x hj hi]
  exact hv
theorem cont_two {L : List En} {a b : Pl × Nat} (h : cont L = [a, b]) : ∃ e1 e3, L = [e1, e3] ∧ e1.pl = a.1 ∧ e1.n = a.2 ∧ e3.pl = b.1 ∧ e3.n = b.2 := by
  match L, h with
  | [], h => cases h
  | [x], h => cases h
  | [x, y], h =>
    simp only [cont, List.map_cons, List.map_nil, List.cons.injEq, and_true] at h
    exact ⟨x, y, rfl, by rw [← h.1], by rw [← h.1], by rw [← h.2], by rw [← h.2]⟩
  | x :: y :: z :: l, h => simp [cont] at h
theorem aggU {x : Int} {b : Bool} {K : Int → Bool → Prop} (hK : K x b) : ∃ vs, Value.tuple #[.int .u64 x, .bool b] = .tuple (List.toArray vs) ∧ ∃ u rest, vs = u :: rest ∧ ∃ x, u = .int .u64 x ∧ ∃ u rest1, rest = u :: rest1 ∧ ∃ b, u = .bool b ∧ rest1 = [] ∧ K x b :=
  ⟨_, rfl, _, _, rfl, _, rfl, _, _, rfl, _, rfl, rfl, hK⟩
abbrev sA : ByteArray := { data := #[(97 : UInt8)] }
abbrev sB : ByteArray := { data := #[(98 : UInt8)] }
abbrev sC : ByteArray := { data := #[(99 : UInt8)] }
theorem sum_a : satS (totN 3 [sA, sB] sA [((1, false, 12884901889), 5), ((1, false, 12884901891), 7)] 2) = 12 := by kernel_rfl
theorem sum_b : satS (totN 3 [sA, sB] sB [((1, false, 12884901889), 5), ((1, false, 12884901891), 7)] 2) = 7 := by kernel_rfl
theorem sum_z1 : satS (totN 3 [sA, sB] sA (goneC 1 [(12884901889, 2)] ([((0, true, 12884901889), 5), ((0, true, 12884901891), 7)].filter fun x => !mineS 1 x.1)) 2) = 14 := by kernel_rfl
theorem sum_z2 : satS (totN 3 [sA, sB] sA (goneC 1 [(12884901889, 2)] ([((0, true, 12884901891), 7), ((0, true, 12884901889), 5)].filter fun x => !mineS 1 x.1)) 2) = 14 := by kernel_rfl
theorem Wakes_ok (w : World) : Calls Try.prog 12 #[] w (endW (fun r w' => r = .bool true ∧ Chg NoS w w') (fun _ _ => False)) := by
  refine F12_calls ?_
  delta F12
  refine Calls.then (New_ok w) ?_
  rintro v w1 ⟨rfl, c1, h1⟩
  refine ⟨_, rfl, ?_⟩
  have s1 := c1.size
  have c2 := chg_alloc w1 (.cells (flatQ [sA, sB]).toArray 51) NoS
  have b2 := blk_alloc w1 (.cells (flatQ [sA, sB]).toArray 51)
  have z2 := size_alloc w1 (.cells (flatQ [sA, sB]).toArray 51)
  have h2 := h1.keep c2 fun _ _ x => x
  show Calls Try.prog 6 #[_, _, _] (w1.alloc (.cells (flatQ [sA, sB]).toArray 51)) _
  generalize w1.alloc (.cells (flatQ [sA, sB]).toArray 51) = w2 at *
  refine Calls.then (Policy_ok h2 (by omega) (l := [sA, sB]) (reads_lit b2) rfl (by omega) (by omega)) ?_
  rintro v w3 ⟨rfl, W3, G3, r, q, ve, h3, hk3, hn3, c3, u3, v3, x3, y3⟩
  have hn3' : ve.names = [sA, sB] := hn3
  have hW3 : ∀ k, W3 k → w.heap.size ≤ k := fun k hk => by
    rcases v3 k hk with hk | hk
    · have : k = w.heap.size := hk; omega
    · omega
  have c03 : Chg NoS w w3 := (c1.trans c2).trans2 c3 fun k hk e => by have : k = w.heap.size := e; omega
  have s03 := c03.size
  refine Calls.then (One_ok w3 1 5 12884901889 rfl) ?_
  rintro v w4 ⟨rfl, c4⟩
  refine ⟨_, rfl, _, _, rfl, _, rfl, _, _, rfl, _, rfl, _, _, rfl, _, rfl, _, _, rfl, _, rfl, _, _, rfl, _, rfl, _, _, rfl, _, rfl, _, _, rfl, _, rfl, _, _, rfl, _, rfl, _, _, rfl, _, rfl, _, _, rfl, _, rfl, _, _, rfl, _, rfl, _, _, rfl, _, rfl, _, _, rfl, _, rfl, _, _, rfl, _, rfl, _, _, rfl, _, rfl, _, _, rfl, _, rfl, _, _, rfl, _, rfl, _, _, rfl, _, rfl, _, _, rfl, _, rfl, _, _, rfl, _, rfl, _, _, rfl, _, rfl, _, _, rfl, _, rfl, _, _, rfl, _, rfl, _, _, rfl, _, _, _, rfl, _, _, rfl, _, rfl, _, _, rfl, _, rfl, _, _, rfl, _, rfl, rfl, ?_⟩
  refine Calls.then (One_ok w4 3 7 12884901891 rfl) ?_
  rintro v w5 ⟨rfl, c5⟩
  refine ⟨_, rfl, _, _, rfl, _, rfl, _, _, rfl, _, rfl, _, _, rfl, _, rfl, _, _, rfl, _, rfl, _, _, rfl, _, rfl, _, _, rfl, _, rfl, _, _, rfl, _, rfl, _, _, rfl, _, rfl, _, _, rfl, _, rfl, _, _, rfl, _, rfl, _, _, rfl, _, rfl, _, _, rfl, _, rfl, _, _, rfl, _, rfl, _, _, rfl, _, rfl, _, _, rfl, _, rfl, _, _, rfl, _, rfl, _, _, rfl, _, rfl, _, _, rfl, _, rfl, _, _, rfl, _, rfl, _, _, rfl, _, rfl, _, _, rfl, _, rfl, _, _, rfl, _, rfl, _, _, rfl, _, rfl, _, _, rfl, _, _, _, rfl, _, _, rfl, _, rfl, _, _, rfl, _, rfl, _, _, rfl, _, rfl, rfl, ?_⟩
  have h5 := (h3.keep c4 fun _ _ x => x).keep c5 fun _ _ x => x
  have c6 := chg_alloc w5 (.cells (flatH [(12884901889, 5), (12884901891, 7)]).toArray 82) NoS
  have b6 := blk_alloc w5 (.cells (flatH [(12884901889, 5), (12884901891, 7)]).toArray 82)
  show Calls Try.prog 8 #[_, _, _] (w5.alloc (.cells (flatH [(12884901889, 5), (12884901891, 7)]).toArray 82)) _
  have h6 := h5.keep c6 fun _ _ x => x
  generalize w5.alloc (.cells (flatH [(12884901889, 5), (12884901891, 7)]).toArray 82) = w6 at *
  have n6 : ∀ k, W3 k → ¬ w5.heap.size = k := fun k hk e => by have := h5.lt k (.inl hk); omega
  refine Calls.then (Stated_ok h6.book (sw := 1) (by omega) (hs := [(12884901889, 5), (12884901891, 7)]) (fun w' hc => hrow_lit (hc.blk b6 fun e => n6 _ e rfl) (by simp)) rfl (by omega)) ?_
  rintro v w7 ⟨rfl, L7, W7, r7, q7, h7, c7, u7, v7, e7⟩
  have e7' : cont L7 = [((1, false, 12884901889), 5), ((1, false, 12884901891), 7)] := e7.trans (by kernel_rfl)
  have c06 : Chg NoS w w6 := ((c03.trans c4).trans c5).trans c6
  have c07 : Chg NoS w w7 := c06.trans2 c7 fun k hk e => by have := hW3 k e; omega
  have hW7 : ∀ k, W7 k → w.heap.size ≤ k := fun k hk => (v7 k hk).elim (hW3 k) fun hk => by have := c06.size; omega
  refine Calls.then (Read_ok h7 sA) ?_
  rintro v w8 ⟨rfl, c8⟩
  refine aggU ?_
  have h8 := h7.keep c8 fun _ _ x => x
  refine Calls.then (Read_ok h8 sB) ?_
  rintro v w9 ⟨rfl, c9⟩
  refine aggU ?_
  have h9 := h8.keep c9 fun _ _ x => x
  refine Calls.then (Read_ok h9 sC) ?_
  rintro v w10 ⟨rfl, c10⟩
  refine aggU ?_
  have h10 := h9.keep c10 fun _ _ x => x
  obtain ⟨e1, e3, rfl, p1, n1, p3, n3⟩ := cont_two e7'
  rw [e7', hk3, hn3']
  refine Calls.then (Reset_ok h10 (by rw [p1]; exact ⟨rfl, rfl⟩) (by rw [p3]; exact ⟨rfl, rfl⟩)) ?_
  rintro v w11 ⟨rfl, bx, b2', W11, h11, c11, u11, v11, e11⟩
  have c010 : Chg NoS w w10 := ((c07.trans c8).trans c9).trans c10
  have c011 : Chg NoS w w11 := c010.trans2 c11 fun k hk e => by have := hW7 k e; omega
  have hW11 : ∀ k, W11 k → w.heap.size ≤ k := fun k hk => (v11 k hk).elim (hW7 k) fun hk => by have := c010.size; omega
  refine Calls.then (One_ok w11 1 2 12884901889 rfl) ?_
  rintro v w12 ⟨rfl, c12⟩
  refine ⟨_, rfl, _, _, rfl, _, rfl, _, _, rfl, _, rfl, _, _, rfl, _, rfl, _, _, rfl, _, rfl, _, _, rfl, _, rfl, _, _, rfl, _, rfl, _, _, rfl, _, rfl, _, _, rfl, _, rfl, _, _, rfl, _, rfl, _, _, rfl, _, rfl, _, _, rfl, _, rfl, _, _, rfl, _, rfl, _, _, rfl, _, rfl, _, _, rfl, _, rfl, _, _, rfl, _, rfl, _, _, rfl, _, rfl, _, _, rfl, _, rfl, _, _, rfl, _, rfl, _, _, rfl, _, rfl, _, _, rfl, _, rfl, _, _, rfl, _, rfl, _, _, rfl, _, rfl, _, _, rfl, _, rfl, _, _, rfl, _, _, _, rfl, _, _, rfl, _, rfl, _, _, rfl, _, rfl, _, _, rfl, _, rfl, rfl, ?_⟩
  have h12 := h11.keep c12 fun _ _ x => x
  have c13 := chg_alloc w12 (.cells (flatH [(12884901889, 2)]).toArray 82) NoS
  have b13 := blk_alloc w12 (.cells (flatH [(12884901889, 2)]).toArray 82)
  show Calls Try.prog 8 #[_, _, _] (w12.alloc (.cells (flatH [(12884901889, 2)]).toArray 82)) _
  have h13 := h12.keep c13 fun _ _ x => x
  generalize w12.alloc (.cells (flatH [(12884901889, 2)]).toArray 82) = w13 at *
  have n13 : ∀ k, W11 k → ¬ w12.heap.size = k := fun k hk e => by have := h12.lt k (.inl hk); omega
  refine Calls.then (Stated_ok h13.book (sw := 1) (by omega) (hs := [(12884901889, 2)]) (fun w' hc => hrow_lit (hc.blk b13 fun e => n13 _ e rfl) (by simp)) rfl (by omega)) ?_
  rintro v w14 ⟨rfl, L14, W14, r14, q14, h14, c14, u14, v14, e14⟩
  have c013 : Chg NoS w w13 := (c011.trans c12).trans c13
  have c014 : Chg NoS w w14 := c013.trans2 c14 fun k hk e => by have := hW11 k e; omega
  refine Calls.then (Read_ok h14 sA) ?_
  rintro v w15 ⟨rfl, c15⟩
  refine aggU ?_
  rw [hk3, hn3', e14]
  have hz : satS (totN 3 [sA, sB] sA (goneC 1 [(12884901889, 2)] ((cont [bx, b2']).filter fun x => !mineS 1 x.1)) 2) = 14 := by
    rw [p1, p3, n1, n3] at e11
    rcases e11 with e | e
    · rw [e]; exact sum_z1
    · rw [e]; exact sum_z2
  rw [if_pos (by kernel_rfl), if_pos (by show ((satS (totN 3 [sA, sB] sA [((1, false, 12884901889), 5), ((1, false, 12884901891), 7)] 2) : Int) == 12) = true; rw [sum_a]; rfl), if_pos (by show ((satS (totN 3 [sA, sB] sB [((1, false, 12884901889), 5), ((1, false, 12884901891), 7)] 2) : Int) == 7) = true; rw [sum_b]; rfl), if_pos (by kernel_rfl)]
  refine ⟨?_, c014.trans c15⟩
  show Value.bool ((satS (totN 3 [sA, sB] sA (goneC 1 [(12884901889, 2)] ((cont [bx, b2']).filter fun x => !mineS 1 x.1)) 2) : Int) == 14) = _
  rw [hz]
  rfl
end Go.Proofs.Ytaomfaehgbgdgaa.B
