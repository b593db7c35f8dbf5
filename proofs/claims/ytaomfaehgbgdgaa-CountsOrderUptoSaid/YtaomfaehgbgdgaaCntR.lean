/-
  Counts: the law CountsOrder.
-/
import Derived.Test.YtaomfaehgbgdgaaCntQ
set_option maxRecDepth 100000
set_option linter.unusedVariables false
set_option linter.unusedSimpArgs false
namespace Go.Proofs.Ytaomfaehgbgdgaa.B
open Go Go.Proofs Go.Proofs.YtaomfaehgbgdgaaEng

theorem choose_list {α β : Type} {p : α → β → Prop} : ∀ (css : List α), (∀ cs ∈ css, ∃ x, p cs x) → ∃ xs : List β, xs.length = css.length ∧ ∀ (j : Nat) x, xs[j]? = some x → ∃ cs, css[j]? = some cs ∧ p cs x
  | [], _ => ⟨[], rfl, fun j x hx => by simp at hx⟩
  | y :: css, hx => by
    obtain ⟨b, hb⟩ := hx y (List.mem_cons_self ..)
    obtain ⟨xs, hl, hh⟩ := choose_list css fun cs hcs => hx cs (List.mem_cons_of_mem _ hcs)
    refine ⟨b :: xs, by simp [hl], fun j x hj => ?_⟩
    cases j with
    | zero =>
      simp only [List.getElem?_cons_zero, Option.some.injEq] at hj
      subst hj
      exact ⟨y, rfl, hb⟩
    | succ j => exact hh j x (by simpa using hj)
theorem lrow_in {n : Nat} {w : World} {a : Option Addr} {len cap : Nat} (h : Is 1048576 Try.prog w (n + 7) 38 [.slice a len cap]) : ∃ ls : List (List (Int × Int)), len = ls.length ∧ len ≤ cap ∧ LRow w a ls := by
  obtain ⟨a', n', c', e, h1, h2, h3, css, hl, hi, hr⟩ := is_rows Try.underlying38 cells24 (by omega) h
  simp only [List.cons.injEq, Value.slice.injEq, and_true] at e
  obtain ⟨rfl, rfl, rfl⟩ := e
  obtain ⟨ls, hl2, hh⟩ := choose_list (p := fun cs (hs : List (Int × Int)) => ∃ a' n' c', cs = [.slice a' n' c'] ∧ HRow w a' hs ∧ n' = hs.length ∧ n' ≤ 9223372036854775807) css fun cs hcs => by
    obtain ⟨j, hj, e1⟩ := List.mem_iff_getElem.1 hcs
    obtain ⟨k1, _⟩ := hi j cs (by rw [List.getElem?_eq_getElem hj, e1])
    obtain ⟨a', m', c', rfl, _⟩ := Is.slice Try.underlying24 k1
    obtain ⟨hs, g1, g2, g3, g4⟩ := held_in (n := n) k1
    exact ⟨hs, a', m', c', rfl, g4, g1, by omega⟩
  refine ⟨ls, by omega, h1, fun j hs hj => ?_⟩
  obtain ⟨cs, hc1, a', m', c', rfl, g1, g2, g3⟩ := hh j hs hj
  obtain ⟨A, hA, hcell⟩ := hr j _ 0 (.slice a' m' c') hc1 rfl
  exact ⟨A, a', m', c', hA, by rwa [Nat.mul_one, addK_zero] at hcell, g1, g2, g3⟩
theorem CountsOrder_walk (a0 : Option Addr) (len0 cap0 : Nat) (a1 : Option Addr) (len1 cap1 : Nat) (w : World) (i0 : Is 1048576 Try.prog w 12 22 [.slice a0 len0 cap0]) (i1 : Is 1048576 Try.prog w 12 38 [.slice a1 len1 cap1]) :
    Calls Try.prog 4 #[.slice a0 len0 cap0, .slice a1 len1 cap1] w (endW (fun v w' => v = .bool true ∧ Chg NoS w w') (fun _ _ => False)) := by
  obtain ⟨names, hn0, hnc, hcb, hr0, hnil⟩ := names_in (n := 10) i0
  obtain ⟨ls0, hl1, hlc, hrow0⟩ := lrow_in (n := 5) i1
  refine F4_calls a0 len0 cap0 a1 len1 cap1 ?_
  delta F4
  refine ⟨fun s w1 => w = w1 ∧ ∃ ls, LRow w s.1 ls ∧ s.2.1 = ls.length ∧ ls.length ≤ 20, ?_, ?_⟩
  rotate_left
  · by_cases h20 : (len1 : Int) > 20
    · rw [if_pos (by simpa using h20)]
      refine ⟨by omega, by omega, (a1, 20, cap1), ⟨by rw [cut0]; rfl, trivial⟩, rfl, ls0.take 20, hrow0.take 20, ?_, ?_⟩
      · show 20 = _
        rw [List.length_take]; omega
      · rw [List.length_take]; omega
    · rw [if_neg (by simpa using h20)]
      exact ⟨(a1, len1, cap1), ⟨rfl, trivial⟩, rfl, ls0, hrow0, hl1, by omega⟩
  rintro ⟨la, ln, lc⟩ _ ⟨rfl, ls, hrow, hln, hl20⟩ _
  dsimp only at hrow hln ⊢
  refine Calls.then (Book_ok hr0 hn0 (by omega) hrow hln (by omega)) ?_
  rintro v w1 ⟨bA, rA, qA, LA, veA, WA, GA, rfl, hA1, kA, nA, eA, c1⟩
  refine ⟨_, rfl, ?_⟩
  refine Calls.then (New_ok w1) ?_
  rintro v w2 ⟨rfl, c2, hB2⟩
  have hA2 := hA1.keep c2 fun _ _ x => x
  have s1 := c1.size
  have s2 := c2.size
  refine ⟨_, rfl, fun _ w3 => w2 = w3, ?_, ?_⟩
  rotate_left
  · rw [if_pos (by simp), if_neg (by simp)]
    exact ⟨(), trivial, rfl⟩
  rintro _ _ rfl _
  have hltA : ∀ k, WA k ∨ GA k → k < w1.heap.size := fun k hk => hA1.lt k hk
  refine ⟨fun s w4 => ∃ (k : Nat) (L : List En) (W : Nat → Prop), s = (k : Int) - 1 ∧ k ≤ ln ∧ Book w4 w1.heap.size L [] W (fun _ => False) ∧ Warm w4 bA rA qA LA [veA] WA GA ∧ (∀ k, W k → w1.heap.size ≤ k) ∧ (∀ x ∈ cont L, (k : Int) ≤ x.1.1) ∧ (∀ v i, tot1 v i (cont L) + tot1 v i (contA ls k) = tot1 v i (contA ls ls.length)) ∧ Chg NoS w1 w4, fun s _ => (s + 1).toNat,
    ⟨(ln : Int) - 1, ⟨by rw [i64w _ (by omega) (by omega)], trivial⟩, ln, [], _, rfl, Nat.le_refl _, hB2, hA2, fun k hk => by omega, (fun x hx => by cases hx), (fun v i => by rw [hln]; simp [cont, tot1]), c2⟩, ?_⟩
  rintro s w4 ⟨k, L, W4, rfl, hk, hB, hA, hW4, hge, htot, c4⟩ _
  have s4 := c4.size
  cases k with
  | succ k =>
    rw [if_pos (by simp)]
    have hkl : k < ls.length := by omega
    have hidx : ((k + 1 : Nat) : Int) - 1 = (k : Int) := by omega
    rw [hidx]
    obtain ⟨A, a2, n2, c2', hAd, hcell, hrw, hn2, hm2⟩ := hrow k _ (List.getElem?_eq_getElem hkl)
    have c04 : Chg NoS w w4 := c1.trans c4
    have hwr : IntKind.wrap .u16 (k : Int) = k := by
      have h2 : (k : Int) % 65536 = k := by omega
      simpa [IntKind.wrap, IntKind.signed, IntKind.bits] using h2
    rw [hwr]
    refine ⟨by omega, by omega, wSome_of hAd ⟨_, _, _, (by rw [Int.toNat_natCast, Nat.mul_one]; exact cellKeep hcell c04 fun _ _ x => x), ?_⟩⟩
    have hne : ∀ x ∈ cont L, x.1.1 ≠ (k : Int) := fun x hx => by have := hge x hx; omega
    refine Calls.then (Stated_ok hB (sw := k) (by omega) (hs := ls[k]) (fun w' hc => hrw.keep (c04.trans2 hc fun x hx e => by have := hW4 x e; omega)) hn2 hm2) ?_
    rintro v w5 ⟨rfl, L5, W5, r5, q5, h5, c5, u5, v5, e5⟩
    rw [stated_new hne] at e5
    have c15 : Chg NoS w1 w5 := c4.trans2 c5 fun x hx e => by have := hW4 x e; omega
    have c05 := c1.trans c15
    have hW5 : ∀ x, W5 x → w1.heap.size ≤ x := fun x hx => (v5 x hx).elim (hW4 x) fun hx => by omega
    have hA5 := hA.keep c5 fun x hx e => by have := hW4 x e; have := hltA x hx; omega
    have s5 := c5.size
    refine ⟨by omega, by omega, wSome_of hAd ⟨_, _, _, (by rw [Int.toNat_natCast, Nat.mul_one]; exact cellKeep hcell c05 fun _ _ x => x), ?_⟩⟩
    refine Calls.then (Stated_ok h5.book (sw := k) (by omega) (hs := ls[k]) (fun w' hc => hrw.keep (c05.trans2 hc fun x hx e => by have := hW5 x e; omega)) hn2 hm2) ?_
    rintro v w6 ⟨rfl, L6, W6, r6, q6, h6, c6, u6, v6, e6⟩
    rw [e5, stated_again hne] at e6
    have hA6 := hA5.keep c6 fun x hx e => by have := hW5 x e; have := hltA x hx; omega
    refine ⟨(k : Int) - 1, ⟨by rw [i64w _ (by omega) (by omega)], trivial⟩, ⟨k, L6, W6, rfl, by omega, h6.book, hA6, fun x hx => (v6 x hx).elim (hW5 x) fun hx => by omega, fun x hx => ?_, fun v i => ?_, c15.trans2 c6 fun x hx e => by have := hW5 x e; omega⟩, by first | omega | (dsimp only; omega)⟩
    · rw [e6] at hx
      rcases List.mem_append.1 hx with hx | hx
      · have := hge x hx; omega
      · have := blockC_keys x hx; omega
    · have h1 := htot v i
      rw [show contA ls (k + 1) = contA ls k ++ blockC k (ls.getD k []) from rfl, tot1_append] at h1
      have h2 : ls.getD k [] = ls[k] := by rw [List.getD_eq_getElem?_getD, List.getElem?_eq_getElem hkl]; rfl
      rw [h2] at h1
      rw [e6, tot1_append]
      omega
  | zero =>
    rw [if_neg (by simp)]
    have c04 : Chg NoS w w4 := c1.trans c4
    refine Calls.then (Queries_ok (hr0.chg c04 fun _ _ x => x) hn0 (by omega)) ?_
    rintro v w5 ⟨a', c', rfl, ho, c5⟩
    refine ⟨_, _, _, rfl, ?_⟩
    obtain ⟨_, _, e', hcap, _⟩ := own_form ho
    injection e' with _ _ e3
    subst e3
    have hcm : c' ≤ 9223372036854775807 := by
      rcases ho.2 with ⟨he, h0⟩ | ⟨g, cap, cur, he, hg, hh, hn, hm, hsz, ht⟩
      · injection he with _ _ h2; omega
      · injection he with _ _ h2; subst h2; unfold maxLen at hm; omega
    have hB5 := hB.keep c5 fun _ _ x => x
    have hA5 := hA.keep c5 fun _ _ x => x
    refine Calls.then (Policy_ok hB5 (by omega) (l := names) (own_reads' ho) hn0 hcap hcm) ?_
    rintro v w6 ⟨rfl, W6, G6, r6, q6, veB, hB6, kB, nB, c6, u6, v6, x6, y6⟩
    have c05 := c04.trans c5
    have hA6 := hA5.keep c6 fun x hx e => by have := hW4 x e; have := hltA x hx; omega
    have c06 : Chg NoS w w6 := c05.trans2 c6 fun x hx e => by have := hW4 x e; omega
    -- the names, and one more
    have b7 := blk_alloc w6 (.cells #[.string { data := #[(97 : UInt8)] }] 9)
    have c7 := chg_alloc w6 (.cells #[.string { data := #[(97 : UInt8)] }] 9) NoS
    have hA7 := hA6.keep c7 fun _ _ x => x
    have hB7 := hB6.keep c7 fun _ _ x => x
    have c07 := c06.trans c7
    have z7 := size_alloc w6 (.cells #[.string { data := #[(97 : UInt8)] }] 9)
    generalize w6.alloc (.cells #[.string { data := #[(97 : UInt8)] }] 9) = w7 at *
    have own7 : w7.ownsRow w6.heap.size 9 1 (.slice (some ⟨w6.heap.size, 0, none⟩) 1 1) 1 (names8 [sA]) := ⟨rfl, .inr ⟨w6.heap.size, 1, #[.string sA], rfl, Nat.le_refl _, b7, Nat.le_refl _, by unfold maxLen; omega, rfl, rfl⟩⟩
    refine row_append (base := w6.heap.size) (news := names8 names) Try.underlying22 Try.underlying22 info9 rfl own7 (by simp [names8, hn0]) (hr0.chg c07 fun _ _ x => x) (fun e => by have := hnil e; omega) (names_one _) (by omega) (by omega) (by omega) ?_
    intro a8 c8' w8 ho8 c8 _
    have hfr : ∀ k, WA k ∨ GA k → ¬ ((Value.slice (some ⟨w6.heap.size, 0, none⟩) 1 1).ownBlock = some k) := fun k hk e => by
      have e' : w6.heap.size = k := by injection e
      have := hA6.lt k hk; omega
    have hfrB : ∀ k, W6 k ∨ G6 k → ¬ ((Value.slice (some ⟨w6.heap.size, 0, none⟩) 1 1).ownBlock = some k) := fun k hk e => by
      have e' : w6.heap.size = k := by injection e
      have := hB6.lt k hk; omega
    have hA8 := hA7.keep c8 hfr
    have hB8 := hB7.keep c8 hfrB
    have s06 := c06.size
    have c08 : Chg NoS w w8 := c07.trans2 c8 fun k hk e => by
      have e' : w6.heap.size = k := by injection e
      omega
    refine ⟨_, _, _, rfl, ?_⟩
    have hrd : Reads w8 a8 (names8 (sA :: names)) := own_reads' ho8
    have hlen : (1 + len0) = (sA :: names).length := by simp; omega
    have hcmp : ∀ s, satS (totN 1 (names.take 32) s (cont LA) (names.take 32).length) = satS (totN 1 (names.take 32) s (cont L) (names.take 32).length) := fun s => by
      congr 1
      refine totN_congr (fun i => ?_) _
      rw [eA, ← htot 1 i]
      simp [contA, tot1]
    refine ⟨fun s w9 => ∃ j : Nat, s = j ∧ j ≤ 1 + len0 ∧ Chg NoS w8 w9, fun s _ => ((1 + len0 : Nat) - s).toNat, ⟨0, ⟨rfl, trivial⟩, 0, rfl, by omega, Chg.refl _ _⟩, ?_⟩
    rintro s w9 ⟨j, rfl, hj, c9⟩ _
    have hA9 := hA8.keep c9 fun _ _ x => x
    have hB9 := hB8.keep c9 fun _ _ x => x
    by_cases hlt : (j : Int) < (1 + len0 : Nat)
    · rw [if_pos (by simpa using hlt)]
      have hjl : j < (sA :: names).length := by omega
      obtain ⟨A, hAd, hcell⟩ := (hrd.chg c9 fun _ _ x => x) j _ (names_get hjl)
      refine ⟨by omega, by omega, wSome_of hAd ⟨_, (by rw [Int.toNat_natCast, Nat.mul_one]; exact hcell), ?_⟩⟩
      refine Calls.then (Read_ok hA9 (sA :: names)[j]) ?_
      rintro v w10 ⟨rfl, c10⟩
      refine aggU ?_
      have hB10 := hB9.keep c10 fun _ _ x => x
      refine Calls.then (Read_ok hB10 (sA :: names)[j]) ?_
      rintro v w11 ⟨rfl, c11⟩
      refine aggU ?_
      rw [kA, kB, nA, nB, hcmp]
      rw [if_pos (by simp), if_neg (by simp)]
      exact ⟨(j : Int) + 1, ⟨by rw [i64w _ (by omega) (by omega)], trivial⟩, ⟨j + 1, rfl, by omega, (c9.trans c10).trans c11⟩, by first | omega | (dsimp only; omega)⟩
    · rw [if_neg (by simpa using hlt)]
      refine Calls.then (Wakes_ok w9) ?_
      rintro v w10 ⟨rfl, c10⟩
      exact ⟨_, rfl, rfl, (c08.trans c9).trans c10⟩
end Go.Proofs.Ytaomfaehgbgdgaa.B
