/-
  Counts: what is gone, by the program.
-/
import Derived.Test.YtaomfaehgbgdgaaCntE
set_option maxRecDepth 100000
set_option linter.unusedVariables false
set_option linter.unusedSimpArgs false
namespace Go.Proofs.Ytaomfaehgbgdgaa.B
open Go Go.Proofs Go.Proofs.YtaomfaehgbgdgaaEng

theorem take_snoc {α : Type} {l : List α} {j : Nat} (hj : j < l.length) : l.take (j + 1) = l.take j ++ [l[j]] := by
  rw [List.take_add_one, List.getElem?_eq_getElem hj]
  rfl
theorem addK_block (A : Addr) (n : Nat) : (addK A n).block = A.block := by
  unfold addK Addr.add
  split <;> rfl
theorem wSome_of {a : Option Addr} {A : Addr} {K : Addr → Prop} (h : a = some A) (hk : K A) : wSome a K := by
  subst h
  exact hk
theorem addC_in {l : List (Pl × Nat)} {p : Pl} {m : Nat} (h : p ∈ l.map Prod.fst) : addC l p m = l.map (fun x => if x.1 = p then (x.1, satS (x.2 + m)) else x) := if_pos h
theorem addC_new {l : List (Pl × Nat)} {p : Pl} {m : Nat} (h : p ∉ l.map Prod.fst) : addC l p m = l ++ [(p, satS m)] := if_neg h
/-- a place's sum is found, or laid, and grows -/
theorem AtAdd_ok {w : World} {b r q : Nat} {L : List En} {V : List Ve} {W G : Nat → Prop} (h : Warm w b r q L V W G) {p : Pl} (hp : PlOk p) {m : Int} (hm0 : 0 ≤ m) (hm : m ≤ 18446744073709551615) {R : World → Prop}
    (hK : ∀ w' L' W', Warm w' b r q L' V W' G → Chg W w w' → (∀ k, W k → W' k) → (∀ k, W' k → W k ∨ w.heap.size ≤ k) → cont L' = addC (cont L) p m.toNat → R w') :
    Calls Try.prog 17 #[.pointer (some ⟨b, 0, none⟩), plV p] w (endW (fun v w' => ∃ P, v = .pointer P ∧ Kept (OnlyB r) w w' ∧ Calls Try.prog 18 #[.pointer P, .int .u64 m] w' (endW (fun _ w' => R w') (fun _ _ => False))) (fun _ _ => False)) := by
  refine Calls.then (At_ok h hp) ?_
  rintro v w1 ⟨k, rfl, c1, hk⟩
  refine ⟨_, rfl, ⟨c1.size, fun x hx hs => c1.block x hx hs⟩, ?_⟩
  obtain ⟨m', rfl⟩ := Int.eq_ofNat_of_zero_le hm0
  rcases hk with ⟨e, he, hpl, hbk, hw1⟩ | ⟨hno, hnew, born, hw1⟩
  · obtain ⟨g1, g2, g3, g4, g5, g6, g7⟩ := hw1.ent e he
    rw [hbk] at g2
    refine Calls.then (Add_ok (m := m') g2 g3 (by omega)) ?_
    rintro v w2 ⟨rfl, s2, c2, z2⟩
    obtain ⟨h1, h2⟩ := hw1.add he hbk s2 c2
    refine hK w2 _ W h1 ?_ (fun _ x => x) (fun _ x => .inl x) ?_
    · exact (c1.mono fun x hx e' => by have e'' : x = r := e'; subst e''; exact h.wr).trans2 c2 fun x hx e' => by have e'' : x = k := e'; subst e''; rw [← hbk]; exact g4
    · rw [h2, addC_in (by rw [cont_keys]; exact List.mem_map.2 ⟨e, he, hpl⟩), hpl]
      simp
  · have hin : (⟨p, k, 0, born⟩ : En) ∈ L ++ [⟨p, k, 0, born⟩] := List.mem_append_right _ (List.mem_singleton.2 rfl)
    obtain ⟨g1, g2, g3, g4, g5, g6, g7⟩ := hw1.ent _ hin
    refine Calls.then (Add_ok (m := m') g2 (by simp) (by omega)) ?_
    rintro v w2 ⟨rfl, s2, c2, z2⟩
    obtain ⟨h1, h2⟩ := hw1.add hin rfl s2 c2
    refine hK w2 _ _ h1 ?_ (fun _ x => .inl x) (fun x hx => hx.elim .inl fun e => .inr (by omega)) ?_
    · exact (c1.mono fun x hx e' => by have e'' : x = r := e'; subst e''; exact h.wr).trans2 c2 fun x hx e' => by have e'' : x = k := e'; omega
    · have hnk : p ∉ (cont L).map Prod.fst := by
        rw [cont_keys]
        intro hh
        obtain ⟨e, he, hpe⟩ := List.mem_map.1 hh
        exact hno e he hpe
      rw [h2, addC_new hnk]
      unfold cont
      rw [List.map_append, List.map_append]
      have e1 : (L.map fun e => (e.pl, e.n)).map (fun x => if x.1 = p then (x.1, satS (x.2 + m')) else x) = L.map fun e => (e.pl, e.n) := by
        rw [List.map_map]
        refine List.map_congr_left fun e he => ?_
        simp only [Function.comp_apply]
        rw [if_neg (hno e he)]
      rw [e1]
      simp
theorem Gone_ok {w : World} {b r q : Nat} {L : List En} {V : List Ve} {W G : Nat → Prop} (h : Warm w b r q L V W G) {sw : Int} (hsw : 0 ≤ sw ∧ sw ≤ 65535) {a : Option Addr} {n c : Nat} {hs : List (Int × Int)} (hr : ∀ w', Chg W w w' → HRow w' a hs) (hn : n = hs.length) (hn2 : n ≤ 9223372036854775807) :
    Calls Try.prog 9 #[.pointer (some ⟨b, 0, none⟩), .int .u16 sw, .slice a n c] w (endW (fun v w' => v = .tuple #[] ∧ ∃ L' W', Warm w' b r q L' V W' G ∧ Chg W w w' ∧ (∀ k, W k → W' k) ∧ (∀ k, W' k → W k ∨ w.heap.size ≤ k) ∧ cont L' = goneC sw hs (cont L)) (fun _ _ => False)) := by
  refine F9_calls (some ⟨b, 0, none⟩) sw a n c ?_
  delta F9
  rw [if_neg (by simp)]
  refine ⟨fun s w1 => ∃ (j : Nat) (L' : List En) (W' : Nat → Prop), s = j ∧ j ≤ n ∧ Warm w1 b r q L' V W' G ∧ Chg W w w1 ∧ (∀ k, W k → W' k) ∧ (∀ k, W' k → W k ∨ w.heap.size ≤ k) ∧ cont L' = goneC sw (hs.take j) (cont L), fun s _ => (n - s).toNat,
    ⟨0, ⟨rfl, trivial⟩, 0, L, W, rfl, by omega, h, Chg.refl _ _, fun _ x => x, fun _ x => .inl x, rfl⟩, ?_⟩
  rintro s w1 ⟨j, L1, W1, rfl, hj, h1, c1, u1, v1, e1⟩ _
  by_cases hlt : (j : Int) < n
  · rw [if_pos (by simpa using hlt)]
    have hjs : j < hs.length := by omega
    obtain ⟨A, hA, cs, ⟨x0, x1, x2, x3, x4, x5, x6, x7, x8, x9, x10, x11, x12, x13, x14, x15, x16, x17, x18, x19, x20, x21, x22, x24, x25, x26, a1, n1, c1', hcs, hck, hpk, k1, k2, p1, p2⟩, hcc⟩ := hr w1 c1 j _ (List.getElem?_eq_getElem hjs)
    subst hcs
    refine ⟨by omega, by omega, wSome_of hA ?_⟩
    rw [Int.toNat_natCast]
    refine ⟨_, hcc 0 _ rfl, _, hcc 1 _ rfl, _, hcc 2 _ rfl, _, hcc 3 _ rfl, _, hcc 4 _ rfl, _, hcc 5 _ rfl, _, hcc 6 _ rfl, _, hcc 7 _ rfl, _, hcc 8 _ rfl, _, hcc 9 _ rfl, _, hcc 10 _ rfl, _, hcc 11 _ rfl, _, hcc 12 _ rfl, _, hcc 13 _ rfl, _, hcc 14 _ rfl, _, hcc 15 _ rfl, _, hcc 16 _ rfl, _, hcc 17 _ rfl, _, hcc 18 _ rfl, _, hcc 19 _ rfl, _, hcc 20 _ rfl, _, hcc 21 _ rfl, _, hcc 22 _ rfl, _, _, _, hcc 23 _ rfl, _, hcc 24 _ rfl, _, hcc 25 _ rfl, _, hcc 26 _ rfl, ?_⟩
    refine (sets_blk (vs := [.int .i64 x0, .int .u64 x1, .int .u64 x2, .int .u64 x3, .int .u64 x4, .int .u64 x5, .int .u64 x6, .int .u64 x7, .int .u64 x8, .int .u64 x9, .int .u64 x10, .int .u64 x11, .int .u64 x12, .int .u64 x13, .int .u64 x14, .int .u64 x15, .int .u64 x16, .int .u64 x17, .int .u64 x18, .int .u64 x19, .int .u64 x20, .int .u64 x21, .int .u64 x22, .slice a1 n1 c1', .int .u64 x24, .int .u64 x25, .int .u64 x26]) (blk_alloc w1 (.cells #[.int .i64 0, .int .u64 0, .int .u64 0, .int .u64 0, .int .u64 0, .int .u64 0, .int .u64 0, .int .u64 0, .int .u64 0, .int .u64 0, .int .u64 0, .int .u64 0, .int .u64 0, .int .u64 0, .int .u64 0, .int .u64 0, .int .u64 0, .int .u64 0, .int .u64 0, .int .u64 0, .int .u64 0, .int .u64 0, .int .u64 0, .slice none 0 0, .int .u64 0, .int .u64 0, .int .u64 0] 82)) rfl (by simp [oneC]) fun w2 b2 c2 z2 => ?_ : setsW _ _ _ _ _)
    have ca := chg_alloc w1 (.cells #[.int .i64 0, .int .u64 0, .int .u64 0, .int .u64 0, .int .u64 0, .int .u64 0, .int .u64 0, .int .u64 0, .int .u64 0, .int .u64 0, .int .u64 0, .int .u64 0, .int .u64 0, .int .u64 0, .int .u64 0, .int .u64 0, .int .u64 0, .int .u64 0, .int .u64 0, .int .u64 0, .int .u64 0, .int .u64 0, .int .u64 0, .slice none 0 0, .int .u64 0, .int .u64 0, .int .u64 0] 82) NoS
    have c12 : Chg NoS w1 w2 := ca.trans2 c2 fun k hk e => by have : k = w1.heap.size := e; omega
    have h2 := h1.keep c12 fun _ _ x => x
    have cd := chg_drew w2 NoS
    have bd := cd.blk b2 (fun x => x)
    have h3 := h2.keep cd fun _ _ x => x
    have c13 := c12.trans cd
    have hrl := h1.lt r (.inl h1.wr)
    have zz : w1.heap.size < w2.drew.heap.size := lt_of_blk bd
    generalize w2.drew = w3 at *
    have hnb : ∀ i j, ¬ OnlyB r (addK (addK ⟨w1.heap.size, 0, none⟩ i) j).block := fun i j => by
      rw [addK_block, addK_block]
      intro e
      have : w1.heap.size = r := e
      omega
    have r24 : w3.cell? (addK (addK ⟨w1.heap.size, 0, none⟩ 0) 24) = some (.int .u64 x24) := by
      rw [addK_lit, addK_lit, cell_blk bd]
      rfl
    have r25 : w3.cell? (addK (addK ⟨w1.heap.size, 0, none⟩ 25) 0) = some (.int .u64 x25) := by
      rw [addK_lit, addK_lit, cell_blk bd]
      rfl
    refine ⟨OnlyB r, hnb 0 24, x24, r24, hnb 25 0, x25, r25, ?_⟩
    · refine AtAdd_ok (p := (sw, false, x24)) h3 ⟨hsw.1, hsw.2, by dsimp only; omega, by dsimp only; omega⟩ (by omega) (by omega) fun w4 L4 W4 h4 c4 u4 v4 e4 => ?_
      have s13 := c13.size
      have s1 := c1.size
      refine ⟨(j : Int) + 1, ⟨by rw [i64w _ (by omega) (by omega)], trivial⟩, ⟨j + 1, L4, W4, by omega, by omega, h4, ?_, fun k hk => u4 k (u1 k hk), fun k hk => ?_, ?_⟩, by first | omega | (dsimp only; omega)⟩
      · exact (c1.trans (c13.mono fun _ _ x => x.elim)).trans2 c4 fun k hk e => (v1 k e).elim id fun e => by omega
      · rcases v4 k hk with hh | hh
        · exact v1 k hh
        · exact .inr (by omega)
      · rw [e4, e1, take_snoc hjs, goneC_append]
        simp only [goneC]
        rw [hck, hpk]
  · rw [if_neg (by simpa using hlt)]
    rw [List.take_of_length_le (by omega)] at e1
    exact ⟨rfl, L1, W1, h1, c1, u1, v1, e1⟩
end Go.Proofs.Ytaomfaehgbgdgaa.B
