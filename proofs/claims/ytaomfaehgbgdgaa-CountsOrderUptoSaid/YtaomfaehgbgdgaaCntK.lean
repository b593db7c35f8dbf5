/-
  Counts: one held rule; a reset of two sums.
-/
import Derived.Test.YtaomfaehgbgdgaaCntJ
set_option maxRecDepth 100000
set_option linter.unusedVariables false
set_option linter.unusedSimpArgs false
namespace Go.Proofs.Ytaomfaehgbgdgaa.B
open Go Go.Proofs Go.Proofs.YtaomfaehgbgdgaaEng

def heldV (ck pk : Int) : List Value := [.int .i64 0, .int .u64 0, .int .u64 0, .int .u64 0, .int .u64 0, .int .u64 0, .int .u64 0, .int .u64 0, .int .u64 0, .int .u64 0, .int .u64 0, .int .u64 0, .int .u64 0, .int .u64 0, .int .u64 0, .int .u64 0, .int .u64 0, .int .u64 0, .int .u64 0, .int .u64 0, .int .u64 0, .int .u64 0, .int .u64 0, .slice none 0 0, .int .u64 ck, .int .u64 pk, .int .u64 0]
theorem heldV_is {ck pk : Int} (h1 : 0 ≤ ck) (h2 : ck ≤ 18446744073709551615) (h3 : 0 ≤ pk) (h4 : pk ≤ 18446744073709551615) : Held (heldV ck pk) ck pk :=
  ⟨0, 0, 0, 0, 0, 0, 0, 0, 0, 0, 0, 0, 0, 0, 0, 0, 0, 0, 0, 0, 0, 0, 0, ck, pk, 0, none, 0, 0, rfl, rfl, rfl, h1, h2, h3, h4⟩
theorem One_ok (w : World) (x n ck : Int) (hck : IntKind.wrap .u64 (BitVec.toNat (BitVec.ofInt 64 12884901888 ||| BitVec.ofInt 64 x) : Int) = ck) :
    Calls Try.prog 20 #[.int .u64 x, .int .u64 n] w (endW (fun v w' => v = .agg (heldV ck n).toArray ∧ Chg NoS w w') (fun _ _ => False)) := by
  refine F20_calls x n ?_
  delta F20
  rw [hck]
  refine (sets_blk (vs := heldV ck n) (blk_alloc w (.cells #[.int .i64 0, .int .u64 0, .int .u64 0, .int .u64 0, .int .u64 0, .int .u64 0, .int .u64 0, .int .u64 0, .int .u64 0, .int .u64 0, .int .u64 0, .int .u64 0, .int .u64 0, .int .u64 0, .int .u64 0, .int .u64 0, .int .u64 0, .int .u64 0, .int .u64 0, .int .u64 0, .int .u64 0, .int .u64 0, .int .u64 0, .slice none 0 0, .int .u64 0, .int .u64 0, .int .u64 0] 82)) rfl (by simp [heldV, oneC]) fun w1 b1 c1 z1 => ?_ : setsW _ _ _ _ _)
  have rd : ∀ (i : Nat) {v : Value}, (heldV ck n)[i]? = some v → w1.cell? (addK ⟨w.heap.size, 0, none⟩ i) = some v := fun i v hv => by
    rw [addK_lit, cell_blk b1, Nat.zero_add, List.getElem?_toArray]
    exact hv
  exact ⟨_, rd 0 rfl, _, rd 1 rfl, _, rd 2 rfl, _, rd 3 rfl, _, rd 4 rfl, _, rd 5 rfl, _, rd 6 rfl, _, rd 7 rfl, _, rd 8 rfl, _, rd 9 rfl, _, rd 10 rfl, _, rd 11 rfl, _, rd 12 rfl, _, rd 13 rfl, _, rd 14 rfl, _, rd 15 rfl, _, rd 16 rfl, _, rd 17 rfl, _, rd 18 rfl, _, rd 19 rfl, _, rd 20 rfl, _, rd 21 rfl, _, rd 22 rfl, _, _, _, rd 23 rfl, _, rd 24 rfl, _, rd 25 rfl, _, rd 26 rfl, rfl, (chg_alloc w _ NoS).trans2 c1 fun k hk e => by have : k = w.heap.size := e; omega⟩
theorem agg27 {ck pk : Int} {R : Prop} : True := trivial
/-- an entry goes, and stands by the base -/
theorem Move_ok {w : World} {b r q c : Nat} {L : List En} {V : List Ve} {W G : Nat → Prop} {e : En} (h : Warm w b r q L V W G) (he : e ∈ L) (hno : ∀ x ∈ L, x.pl ≠ (0, true, e.pl.2.2)) (hm : w.heap[r]? = some (.map (L.map En.me).toArray c)) (hb : ∀ x ∈ L, x.born < c) {t : TypeId} {K : Value → World → Prop}
    (hK : ∀ w1, Warm w1 b r q (L.filter fun x => decide (x.pl ≠ e.pl)) V W G → SumAt w1 e.blk e.n → Chg (OnlyB r) w w1 → K (.tuple #[]) w1) : runV Try.prog (Builtin.delete_ #[66, 71] t #[.map (some r), plV e.pl]) w K (fun _ _ => False) := by
  refine delete_place h hm hb he fun w1 hm1 h1 c1 z1 => ?_
  obtain ⟨g1, g2, g3, g4, g5, g6, g7⟩ := h.ent e he
  exact hK w1 h1 (g2.keep c1 fun x => g6 x) c1
/-- .. and its number is added there -/
theorem Base_ok {w : World} {b r q k n : Nat} {L : List En} {V : List Ve} {W G : Nat → Prop} {ck : Int} (h : Warm w b r q L V W G) (hck : 0 ≤ ck ∧ ck ≤ 18446744073709551615) (hno : ∀ x ∈ L, x.pl ≠ (0, true, ck)) (hk : SumAt w k n) (hn : n ≤ 18446744073709551615) (hkr : k ≠ r) (hkl : k < w.heap.size) {R : World → Prop}
    (hK : ∀ w' base W', base.pl = (0, true, ck) → base.n = n → Warm w' b r q (L ++ [base]) V W' G → Chg W w w' → (∀ x, W x → W' x) → (∀ x, W' x → W x ∨ w.heap.size ≤ x) → R w') :
    Calls Try.prog 17 #[.pointer (some ⟨b, 0, none⟩), .agg #[.int .u16 0, .bool true, .int .u64 ck]] w (endW (fun v w' => ∃ p, v = .pointer p ∧ Calls Try.prog 19 #[.pointer (some (addK ⟨k, 0, none⟩ 0))] w' (endW (fun v w' => ∃ x, v = .int .u64 x ∧ Calls Try.prog 18 #[.pointer p, .int .u64 x] w' (endW (fun v w' => R w') (fun _ _ => False))) (fun _ _ => False))) (fun _ _ => False)) := by
  refine Calls.then (At_ok (p := (0, true, ck)) h ⟨by omega, by omega, hck.1, hck.2⟩) ?_
  rintro v w1 ⟨k', rfl, c1, hx⟩
  refine ⟨_, rfl, ?_⟩
  have hk1 := hk.keep c1 hkr
  refine Calls.then (Load_ok (x := n) (by rw [addK_zero, cell_blk hk1]; rfl)) ?_
  rintro v w2 ⟨rfl, rfl⟩
  refine ⟨_, rfl, ?_⟩
  rcases hx with ⟨e, he, hpl, _⟩ | ⟨_, hnew, born, hw1⟩
  · exact absurd hpl (hno e he)
  have hin : (⟨(0, true, ck), k', 0, born⟩ : En) ∈ L ++ [⟨(0, true, ck), k', 0, born⟩] := List.mem_append_right _ (List.mem_singleton.2 rfl)
  obtain ⟨g1, g2, g3, g4, g5, g6, g7⟩ := hw1.ent _ hin
  refine Calls.then (Add_ok (m := n) g2 (by simp) hn) ?_
  rintro v w3 ⟨rfl, s3, c3, z3⟩
  obtain ⟨h1, h2⟩ := hw1.add hin rfl s3 c3
  -- the entries are those that were there, and the new one
  have hnW : ∀ x ∈ L, x.blk ≠ k' := fun x hx e => by
    have := h.lt x.blk (.inl (h.ent x hx).2.2.2.1)
    omega
  have hL : (L ++ [(⟨(0, true, ck), k', 0, born⟩ : En)]).map (growS ⟨(0, true, ck), k', 0, born⟩ n) = L ++ [(⟨(0, true, ck), k', n, born⟩ : En)] := by
    rw [List.map_append]
    congr 1
    · refine (List.map_congr_left fun x hx => ?_).trans (List.map_id L)
      unfold growS
      rw [if_neg (hnW x hx)]
      rfl
    · unfold growS
      rw [List.map_cons, if_pos rfl, Nat.zero_add]
      have : satS n = n := by unfold satS; omega
      rw [this]
      rfl
  rw [hL] at h1
  refine hK w3 ⟨(0, true, ck), k', n, born⟩ _ rfl rfl h1 ?_ (fun x hx => .inl hx) fun x hx => hx.elim .inl fun e => .inr (by omega)
  exact (c1.mono fun x hx e' => by have e'' : x = r := e'; subst e''; exact h.wr).trans2 c3 fun x hx e' => by have e'' : x = k' := e'; omega
end Go.Proofs.Ytaomfaehgbgdgaa.B
