/-
  scan: blanks between words make no difference.
-/
import Derived.Test.YthifnahfcbgnoaaDoorScZb
import Derived.Test.YthifnahfcbgnoaaDoorScP
set_option maxRecDepth 100000
set_option linter.unusedVariables false
set_option linter.unusedSimpArgs false
namespace Go.Proofs.YthifnahfcbgnoaaDoor.B
open Go Go.Proofs Go.Proofs.YthifnahfcbgnoaaDoorEng Go.RowKit

theorem catS_len {t : List UInt8} : ∀ {ws : List Wd} {k : Nat}, good t k ws → (catS ws).length ≤ 7 * (t.length - k)
  | [], k, _ => by simp [catS]
  | x :: r, k, h => by
    obtain ⟨⟨g1, g2, g3, _⟩, h2⟩ := h
    have := catS_len h2
    have h3 : 0 < x.txt.length := List.length_pos_iff.2 g2
    simp only [catS, sep, List.length_append, List.length_cons, List.length_nil]
    omega
theorem blank_ok (w : World) (t : List UInt8) (hL : Libs w) : Calls Tryd.prog 5 #[.string (bs t)] w (endW (fun v w' => v = .bool true ∧ Chg NoS w w') (fun _ _ => False)) := by
  refine F5_calls _ ?_
  delta F5
  refine Calls.then (All_ok w t hL.1) ?_
  rintro v w1 ⟨hc1, hv⟩
  have hL1 := hL.chg hc1
  cases hall : allR t with
  | inr x =>
    rw [hall] at hv
    obtain ⟨b, rfl, _, _⟩ := hv
    refine ⟨_, rfl, _, _, rfl, _, _, _, rfl, _, _, rfl, rfl, fun _ _ => False, fun _ _ h => h.elim, .inr ⟨_, _, rfl⟩, ?_⟩
    rw [if_neg (by simp [isNilI])]
    refine ⟨.inr ⟨_, _, rfl⟩, ?_⟩
    rw [if_pos (by rfl)]
    exact wake_end hL1 hc1
  | inl ws' =>
    rw [hall] at hv
    obtain ⟨a, n, c, rfl, ho, hn⟩ := hv
    have hforms : t.length ≤ 65536 ∧ ∃ ws, ws' = ws ++ [⟨0, [], 0, t.length⟩] ∧ good t 0 ws ∧ scan t 0 [] = .inl ws := by
      unfold allR at hall
      split at hall
      · cases hall
      · rename_i hb
        split at hall
        · rename_i ws hs
          injection hall with hall
          obtain ⟨r, e, hg⟩ := scan_good t 0 [] ws hs
          simp only [List.nil_append] at e
          subst e
          exact ⟨by omega, ws, hall.symm, hg, hs⟩
        · cases hall
    obtain ⟨ht, ws, rfl, hg, hs⟩ := hforms
    have hwl := good_len hg
    have hcl := catS_len hg
    have hn1 : n = ws.length + 1 := by simpa using hn
    have hlast := row_word ho (i := ws.length) (x := ⟨0, [], 0, t.length⟩) (by simp)
    obtain ⟨A, rfl, k0, k1, k2, k3⟩ := hlast
    obtain ⟨a', c', e, hnc, _⟩ := own_form ho
    injection e with e1 e2 e3
    subst e3
    have en : IntKind.wrap .i64 ((n : Int) - 1) = (ws.length : Int) := by rw [i64w _ (by omega) (by omega)]; omega
    refine ⟨_, rfl, _, _, rfl, _, _, _, rfl, _, _, rfl, rfl, fun _ w' => w' = w1, ?_, .inl rfl, ?_⟩
    · rintro _ w2 rfl _
      rw [en]
      refine ⟨by omega, by omega, ?_⟩
      refine ⟨fun s w' => ∃ i : Nat, s = (bs (catS (ws.take i)), (i : Int)) ∧ i ≤ ws.length ∧ Chg NoS w2 w', fun s _ => (ws.length - s.2).toNat, ⟨(bs [], 0), ⟨rfl, rfl, trivial⟩, 0, rfl, by omega, Chg.refl _ _⟩, ?_⟩
      rintro _ w3 ⟨i, rfl, hi, hc3⟩ _
      dsimp only
      rw [Int.toNat_natCast, Nat.sub_zero]
      by_cases hlt : i < ws.length
      · rw [if_pos (by simp; omega)]
        refine ⟨by omega, by omega, ?_⟩
        have hsl : (Decidable.rec (fun (h : ¬c = (0 : Nat)) => Option.map (fun (a : Addr) => addK a (0 : Nat)) (some A)) (fun (h : c = (0 : Nat)) => some A) (instDecidableEqNat c (0 : Nat)) : Option Addr) = some A := by
          cases instDecidableEqNat c 0 <;> simp [addK_zero]
        rw [hsl]
        have hx : (ws ++ [⟨0, [], 0, t.length⟩])[i]? = some ws[i] := by rw [List.getElem?_append_left hlt]; exact List.getElem?_eq_getElem hlt
        have htk : catS (ws.take (i + 1)) = catS (ws.take i) ++ (ws[i].txt ++ sep) := by rw [List.take_succ_eq_append_getElem hlt, catS_snoc]
        have hcat : (catS (ws.take (i + 1))).length ≤ (catS ws).length := by
          have : ∀ (l : List Wd) (j : Nat), (catS (l.take j)).length ≤ (catS l).length := by
            intro l
            induction l with
            | nil => intro j; simp [catS]
            | cons y r ih =>
              intro j
              cases j with
              | zero => simp [catS]
              | succ j => simp only [List.take_succ_cons, catS, List.length_append]; have := ih j; omega
          exact this ws (i + 1)
        generalize ws[i] = x at hx htk
        rw [htk] at hcat
        simp only [List.length_append] at hcat
        obtain ⟨A', eA, q0, q1, q2, q3⟩ := row_word (own_of_chg ho hc3 fun _ _ x => x) hx
        cases eA
        rw [Int.toNat_natCast]
        refine some_i ⟨_, q0, _, q1, _, q2, _, q3, ?_⟩
        refine (sets_blk (b := w3.heap.size) (t := 39) (cs := #[.int .i8 0, .string ⟨#[]⟩, .int .u64 0, .int .i64 0]) (vs := [.int .i8 (x.kind : Int), .string (bs x.txt), .int .u64 (x.num : Int), .int .i64 (x.pos : Int)]) (blk_alloc w3 _) rfl (by simp [oneC]) fun w4 b4 c4 z4 => ?_ : setsW _ _ _ _ _)
        have hc34 : Chg NoS w3 w4 := (chg_alloc w3 _ _).trans2 c4 fun k hk e => by
          have : k = w3.heap.size := e
          omega
        have l : ∀ (w' : World) (j : Nat) v, w'.heap[w3.heap.size]? = some (.cells #[.int .i8 (x.kind : Int), .string (bs x.txt), .int .u64 (x.num : Int), .int .i64 (x.pos : Int)] 39 (0, 0)) → (#[.int .i8 (x.kind : Int), .string (bs x.txt), .int .u64 (x.num : Int), .int .i64 (x.pos : Int)] : Array Value)[j]? = some v → w'.cell? (addK ⟨w3.heap.size, 0, none⟩ j) = some v := fun w' j v hb hv => by rw [addK_lit, Nat.zero_add, cell_blk hb]; exact hv
        refine ⟨_, l _ 1 _ b4 rfl, ?_⟩
        have esep : (⟨#[(32 : UInt8), (35 : UInt8), (32 : UInt8), (120 : UInt8), (10 : UInt8), (9 : UInt8)]⟩ : ByteArray) = bs sep := rfl
        rw [esep, bs_app, bs_app, bs_size, bs_size, bs_size, max64]
        have hsep : sep.length = 6 := rfl
        simp only [List.length_append]
        refine ⟨by omega, by omega, (bs (catS (ws.take i) ++ (x.txt ++ sep)), ((i + 1 : Nat) : Int)), ⟨rfl, by rw [i64w _ (by omega) (by omega)]; rfl, trivial⟩, ⟨i + 1, by rw [htk], by omega, hc3.trans hc34⟩, by dsimp only; omega⟩
      · rw [if_neg (by simp; omega)]
        obtain rfl : i = ws.length := by omega
        rw [List.take_length]
        refine Calls.then (All_ok w3 (catS ws) (hL1.chg hc3).1) ?_
        rintro v w4 ⟨hc4, hv⟩
        have hL4 := (hL1.chg hc3).chg hc4
        have hc04 := (hc1.trans hc3).trans hc4
        rw [bs_size]
        by_cases hbig : (catS ws).length > 65536
        · have hall2 : allR (catS ws) = .inr (3, 0, []) := by unfold allR; rw [if_pos hbig]
          rw [hall2] at hv
          obtain ⟨b, rfl, _, _⟩ := hv
          refine ⟨_, rfl, _, _, rfl, _, _, _, rfl, _, _, rfl, rfl, ?_⟩
          rw [if_pos (by simp; omega)]
          refine ⟨.inr ⟨_, _, rfl⟩, ?_⟩
          rw [if_pos (by rfl)]
          exact wake_end hL4 hc04
        · obtain ⟨ks, hall2, hks⟩ := allR_cat hs hbig
          have hkl : ks.length = ws.length := by have := congrArg List.length hks; simpa using this
          rw [hall2] at hv
          obtain ⟨a2, n2, c2, rfl, ho2, hn2⟩ := hv
          have hn2' : n2 = ws.length + 1 := by rw [hn2]; simp [hkl]
          obtain rfl : n2 = n := by omega
          obtain ⟨a', c', e, hnc2, _⟩ := own_form ho2
          injection e with e1 e2 e3
          subst e3
          refine ⟨_, rfl, _, _, rfl, _, _, _, rfl, _, _, rfl, rfl, ?_⟩
          rw [if_neg (by simp; omega)]
          refine ⟨fun _ w' => w' = w4, ?_, .inl rfl, ?_⟩
          · rintro _ w5 rfl _
            rw [en]
            refine ⟨by omega, by omega, ?_⟩
            refine ⟨fun s w' => ∃ i : Nat, s = (i : Int) ∧ i ≤ ws.length ∧ Chg NoS w5 w', fun s _ => (ws.length - s).toNat, ⟨0, ⟨rfl, trivial⟩, 0, rfl, by omega, Chg.refl _ _⟩, ?_⟩
            rintro _ w6 ⟨i, rfl, hi, hc6⟩ _
            dsimp only
            rw [Int.toNat_natCast, Nat.sub_zero]
            by_cases hlt : i < ws.length
            · rw [if_pos (by simp; omega)]
              refine ⟨by omega, by omega, ?_⟩
              have hx : (ws ++ [⟨0, [], 0, t.length⟩])[i]? = some ws[i] := by rw [List.getElem?_append_left hlt]; exact List.getElem?_eq_getElem hlt
              have hy : (ks ++ [⟨0, [], 0, (catS ws).length⟩])[i]? = some (ks[i]'(by omega)) := by rw [List.getElem?_append_left (by omega)]; exact List.getElem?_eq_getElem (by omega)
              have hxy : tri (ks[i]'(by omega)) = tri ws[i] := by
                have h1 : (ks.map tri)[i]? = (ws.map tri)[i]? := by rw [hks]
                simpa [List.getElem?_map, List.getElem?_eq_getElem hlt, List.getElem?_eq_getElem (show i < ks.length by omega)] using h1
              generalize ws[i] = x at hx hxy
              generalize ks[i]'(by omega) = y at hy hxy
              unfold tri at hxy
              injection hxy with z1 z2
              injection z2 with z2 z3
              have hcd := (hc6.trans (chg_drew _ _))
              obtain ⟨A1, eA, q0, q1, q2, _⟩ := row_word (own_of_chg ho ((hc3.trans hc4).trans hcd) fun _ _ x => x) hx
              cases eA
              obtain ⟨A2, rfl, p0, p1, p2, _⟩ := row_word (own_of_chg ho2 hcd fun _ _ x => x) hy
              rw [Int.toNat_natCast]
              refine some_i ⟨by omega, by omega, some_i ⟨_, p0, _, q0, ?_⟩⟩
              rw [if_pos (by simp [z1])]
              refine ⟨by omega, by omega, some_i ⟨by omega, by omega, some_i ⟨_, p1, _, q1, ?_⟩⟩⟩
              rw [bs_beq, if_pos (by simp [z2])]
              refine ⟨by omega, by omega, some_i ⟨by omega, by omega, some_i ⟨_, p2, _, q2, ?_⟩⟩⟩
              rw [if_neg (by simp [z3])]
              exact ⟨((i + 1 : Nat) : Int), ⟨by rw [i64w _ (by omega) (by omega)]; rfl, trivial⟩, ⟨i + 1, rfl, by omega, hcd⟩, by omega⟩
            · rw [if_neg (by simp; omega)]
              exact wake_end (hL4.chg hc6) (hc04.trans hc6)
          · rw [if_pos (by rfl), if_neg (by simp)]
            exact ⟨(), trivial, rfl⟩
    · rw [if_pos (by rfl), if_neg (by simp; omega)]
      exact ⟨(), trivial, rfl⟩
theorem ScanBlank_walk (s0 : ByteArray) (w : World) (i0 : Is maxLen Tryd.prog w 12 9 [.string s0]) (hL : Libs w) : Calls Tryd.prog 5 #[.string s0] w (endW (fun v w' => v = .bool true ∧ Chg NoS w w') (fun _ _ => False)) := by
  rw [← bs_data s0]
  exact blank_ok w _ hL
end Go.Proofs.YthifnahfcbgnoaaDoor.B
