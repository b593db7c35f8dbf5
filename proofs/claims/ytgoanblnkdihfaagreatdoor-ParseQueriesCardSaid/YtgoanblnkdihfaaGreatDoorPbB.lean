/-
  parse: the law of queries, walked.
-/
import Derived.Test.YtgoanblnkdihfaaGreatDoorPbA
import Derived.Test.YtgoanblnkdihfaaGreatDoorScP
set_option maxRecDepth 100000
set_option linter.unusedVariables false
set_option linter.unusedSimpArgs false
namespace Go.Proofs.YtgoanblnkdihfaaGreatDoor.B
open Go Go.Proofs Go.Proofs.YtgoanblnkdihfaaGreatDoorEng Go.RowKit

theorem iteX {c1 c2 : Prop} [Decidable c1] [Decidable c2] {A X : Prop} (h : c1 → c2 → A) (x : ¬ (c1 ∧ c2) → X) : if c1 then (if c2 then A else X) else X := by
  by_cases h1 : c1
  · rw [if_pos h1]
    by_cases h2 : c2
    · rw [if_pos h2]; exact h h1 h2
    · rw [if_neg h2]; exact x fun h => h2 h.2
  · rw [if_neg h1]; exact x fun h => h1 h.1

theorem lit_size (l : Array UInt8) : ({ data := l } : ByteArray).size = l.size := rfl
theorem not_str {w : World} {A : Addr} {g : Nat} {s : ByteArray} {t : TypeId} (hb : w.heap[g]? = some (.cells zs5.toArray t (0, 0))) (h : w.cell? A = some (.string s)) : ¬ OnlyB g A.block := by
  intro e
  have e : A.block = g := e
  unfold World.cell? at h
  rw [e, hb] at h
  dsimp only at h
  by_cases hp : A.spot.isSome = true
  · rw [if_pos hp] at h; simp at h
  · rw [if_neg hp] at h
    have hlt : A.off < 5 := by
      have := (Array.getElem?_eq_some_iff.1 h).1
      simpa using this
    have : A.off = 0 ∨ A.off = 1 ∨ A.off = 2 ∨ A.off = 3 ∨ A.off = 4 := by omega
    rcases this with h' | h' | h' | h' | h' <;> rw [h'] at h <;> simp at h
theorem ParseQueries_w (main : ByteArray) (a1 : Option Addr) (len1 cap1 : Nat) (a2 : Option Addr) (len2 cap2 : Nat) (w : World) (hL : Libs w) (hs1 : Strs w a1 len1) (hm1 : len1 ≤ 9223372036854775807) (hs2 : Strs w a2 len2) (hm2 : len2 ≤ 9223372036854775807) : Calls Tryz.prog 5 #[.string main, .slice a1 len1 cap1, .slice a2 len2 cap2] w (endW (fun v w' => v = .bool true ∧ Chg NoS w w') (fun _ _ => False)) := by
  obtain ⟨a, rfl⟩ : ∃ a, main = bs a := ⟨_, (bs_data main).symm⟩
  refine F5_calls _ _ _ _ _ _ _ ?_
  delta F5
  refine ⟨fun _ w' => w = w' ∧ a.length ≤ 4096 ∧ len1 ≤ 40 ∧ len2 ≤ 40, ?_, ?_⟩
  · rintro _ _ ⟨rfl, hla, hl1, hl2⟩ _
    refine Calls.then (Policy_ok w a hL.1) ?_
    rintro v w1 ⟨o1, ho1, hr1⟩
    obtain ⟨c1, u1, q1, n1, k1, e1, rfl, i1⟩ := hr1.inf
    refine ⟨_, rfl, _, _, rfl, _, rfl, _, _, rfl, _, rfl, _, _, rfl, _, rfl, _, _, rfl, _, rfl, _, _, rfl, _, _, _, rfl, _, _, rfl, _, _, _, rfl, rfl, _, _, rfl, rfl, ?_⟩
    refine (put4 (w := w1) (vs := vs5 u1 q1 n1 k1) (cs := zs5) (blk_alloc w1 _) (chg_alloc w1 _ _) (Nat.le_refl _) rfl (by simp [oneC]) fun w2 b2 c2 _ z2 => ?_ : setsW _ _ _ _ _)
    have c02 := c1.trans c2
    refine ⟨fun _ w' => w2 = w' ∧ ∃ p, o1 = .ok p [] ∧ u1.is w1 p, ?_, ?_⟩
    · rintro _ _ ⟨rfl, p, rfl, hu1⟩ _
      have P1 := hu1.keep c2
      refine ⟨fun s wx => Chg NoS w2 wx ∧ ∃ L : List Pc, s.2.1 = (L.length : Int) ∧ s.2.2 = (L.length : Int) ∧ L.length ≤ len1 ∧ L.length ≤ len2 ∧ (∀ x ∈ L, x.ok) ∧ s.1 = bs (textQ a L) ∧ (textQ a L).length ≤ 4096 + 300 * L.length ∧ ∀ (j : Nat) (x : Pc), L[j]? = some x → ∃ A, a1 = some A ∧ w.cell? (addK A (j * 1)) = some (.string (bs x.nm)), fun s _ => len1 - s.2.2.toNat, ⟨(bs a, 0, 0), ⟨rfl, rfl, rfl, trivial⟩, Chg.refl NoS w2, [], rfl, rfl, Nat.zero_le _, Nat.zero_le _, by simp, by simp [textQ, tailQ], by simp [textQ, tailQ]; omega, by simp⟩, ?_⟩
      rintro ⟨st, sn, si⟩ wx ⟨cx, L, hn, hi, hL1, hL2, hok, ht, htl, hnm⟩ _
      dsimp only at hn hi ht
      subst hn; subst hi; subst ht
      have c0x := c02.trans cx
      refine ⟨fun _ w' => wx = w' ∧ L.length < len1 ∧ L.length < len2, ?_, ?_⟩
      · rintro _ _ ⟨rfl, hi1, hi2⟩ _
        obtain ⟨A1, nm, hA1, hnl, hc1⟩ := hs1 L.length hi1
        obtain ⟨A2, pr, hA2, hpl, hc2⟩ := hs2 L.length hi2
        have hc1' : ∀ wy, Chg NoS w wy → wy.cell? (addK A1 (L.length * 1)) = some (.string (bs nm)) := fun wy cy => cell_keep hc1 cy
        have hc2' : ∀ wy, Chg NoS w wy → wy.cell? (addK A2 (L.length * 1)) = some (.string (bs pr)) := fun wy cy => cell_keep hc2 cy
        have I0 : (0 : Int) ≤ (L.length : Int) := by omega
        have I1 : (L.length : Int) < (len1 : Int) := by omega
        have I2 : (L.length : Int) < (len2 : Int) := by omega
        refine ⟨fun _ w' => wx = w' ∧ nm.length ≤ 40 ∧ pr.length ≤ 200, ?_, ?_⟩
        · rintro _ _ ⟨rfl, hn40, hp200⟩ _
          refine ⟨NoS, I0, I1, ?_⟩
          rw [hA1, hA2]
          refine some_w ⟨fun x => x, _, hc1' _ (c0x.trans (chg_drew _ _)), ?_, ?_, I0, I2, some_w ⟨fun x => x, _, hc2' _ (c0x.trans (chg_drew _ _)), ?_, ?_, ⟨kept_of_ (chg_alloc _ _ _), ?_⟩, trivial⟩⟩
          · (show _ ≤ (9223372036854775807 : Int); simp [ByteArray.size_append, bs_size, lit_size]; omega)
          · (show _ ≤ (9223372036854775807 : Int); simp [ByteArray.size_append, bs_size, lit_size]; omega)
          · (show _ ≤ (9223372036854775807 : Int); simp [ByteArray.size_append, bs_size, lit_size]; omega)
          · rw [probe_bs]
            refine Calls.then (Policy_ok wx.drew (probeQ nm pr) (hL.chg (c0x.trans (chg_drew _ _))).1) ?_
            rintro v w3 ⟨o, ho, hr⟩
            obtain ⟨c3, u3, q3, n3, k3, e3, rfl, i3⟩ := hr.inf
            refine ⟨_, rfl, _, _, rfl, _, rfl, _, _, rfl, _, rfl, _, _, rfl, _, rfl, _, _, rfl, _, rfl, _, _, rfl, _, _, _, rfl, _, _, rfl, _, _, _, rfl, rfl, _, _, rfl, rfl, kept_of_ c3, ⟨kept_of_ (c3.trans (chg_alloc _ _ _)), ?_, trivial⟩, trivial⟩
            refine (put4 (w := w3) (vs := vs5 u3 q3 n3 k3) (cs := zs5) (blk_alloc w3 _) (chg_alloc w3 _ _) (Nat.le_refl _) rfl (by simp [oneC]) fun w4 b4 c4 _ z4 => ?_ : setsW _ _ _ _ _)
            have cwd : Chg NoS wx w4.drew := ((chg_drew wx NoS).trans (c3.trans c4)).trans (chg_drew _ _)
            refine ⟨kept_of_ (c3.trans c4), fun _ w' => Chg NoS wx w' ∧ (∃ x : Pc, x.ok ∧ x.nm = nm ∧ x.pr = pr), ?_, i3.shape, ?_⟩
            · rintro _ wz ⟨cz, x, hx, rfl, rfl⟩ _
              have hlt : (textQ a (L ++ [x])).length = (textQ a L).length + (x.nm.length + x.pr.length + 10) := by
                rw [textQ_snoc]; simp [segQ]; omega
              refine ⟨?_, I0, I1, ?_⟩
              · (show _ ≤ (9223372036854775807 : Int); simp [ByteArray.size_append, bs_size, lit_size]; omega)
              refine some_w ⟨I0, I2, some_w ⟨_, hc1' _ ((c0x.trans cz).trans (chg_drew _ _)), ?_, ?_, _, hc2' _ ((c0x.trans cz).trans (chg_drew _ _)), ?_, (bs (textQ a (L ++ [x])), ((L.length + 1 : Nat) : Int), ((L.length + 1 : Nat) : Int)), ⟨?_, ?_, ?_, trivial⟩, ⟨(cx.trans cz).trans (chg_drew _ _), L ++ [x], by simp, by simp, by simp; omega, by simp; omega, ?_, rfl, ?_, ?_⟩, ?_⟩⟩
              · (show _ ≤ (9223372036854775807 : Int); simp [ByteArray.size_append, bs_size, lit_size]; omega)
              · (show _ ≤ (9223372036854775807 : Int); simp [ByteArray.size_append, bs_size, lit_size]; omega)
              · (show _ ≤ (9223372036854775807 : Int); simp [ByteArray.size_append, bs_size, lit_size]; omega)
              · exact congrArg Value.string (text_bs a L x).symm
              · show Value.int .i64 _ = Value.int .i64 (IntKind.wrap .i64 ((L.length : Int) + 1))
                rw [i64w _ (by omega) (by omega)]; rfl
              · show Value.int .i64 _ = Value.int .i64 (IntKind.wrap .i64 ((L.length : Int) + 1))
                rw [i64w _ (by omega) (by omega)]; rfl
              · intro y hy
                rcases List.mem_append.1 hy with hy | hy
                · exact hok y hy
                · rw [List.mem_singleton.1 hy]; exact hx
              · rw [hlt]; simp only [List.length_append, List.length_singleton]; omega
              · intro j y hy
                by_cases hj : j < L.length
                · rw [List.getElem?_append_left hj] at hy
                  rw [← hA1]; exact hnm j y hy
                · rw [List.getElem?_append_right (by omega)] at hy
                  have hj' : j - L.length = 0 := by
                    have := (List.getElem?_eq_some_iff.1 hy).1
                    simp at this; omega
                  rw [hj'] at hy
                  obtain rfl : x = y := by simpa using hy
                  obtain rfl : j = L.length := by omega
                  exact ⟨A1, rfl, hc1⟩
              · show len1 - (L.length + 1) < len1 - L.length
                omega
            · by_cases h1 : (!isNilI e3) = false
              · rw [if_pos h1]
                refine ⟨_, _, _, ld5 b4 (chg_drew _ _) 4 _ rfl, ?_⟩
                by_cases h2 : ((n3 : Int) != 1) = false
                · rw [if_pos h2]
                  obtain ⟨A, q, hqA, hq, hpc⟩ := probe_ok ho i3 h1 h2
                  refine ⟨I0, I1, ?_⟩
                  refine some_w ⟨_, _, _, ld5 b4 (chg_drew _ _) 4 _ rfl, Int.le_refl _, by simp at h2; omega, ?_⟩
                  rw [hqA]
                  refine some_w ⟨_, cell_keep hq (c4.trans (chg_drew _ _)), _, hc1' _ (c0x.trans cwd), ?_⟩
                  rw [bs_beq]
                  by_cases h3 : q = nm
                  · rw [if_neg (by simp [h3])]
                    exact ⟨(), trivial, cwd, hpc h3⟩
                  · rw [if_pos (by simp [h3])]
                    exact wake2 hL (c0x.trans cwd)
                · rw [if_neg h2]
                  exact wake2 hL (c0x.trans cwd)
              · rw [if_neg h1]
                exact wake2 hL (c0x.trans cwd)
          · rw [probe_bs]
            refine ⟨?_, trivial⟩
            refine Calls.then (Policy_ok (wx.drew.alloc (.cells zs5.toArray 30)) (probeQ nm pr) (hL.chg ((c0x.trans (chg_drew _ _)).trans (chg_alloc _ _ _))).1) ?_
            rintro v w3 ⟨o, ho, hr⟩
            obtain ⟨c3, u3, q3, n3, k3, e3, rfl, i3⟩ := hr.inf
            have c3' := (chg_alloc wx.drew (.cells zs5.toArray 30) NoS).trans c3
            have b3 : w3.heap[wx.drew.heap.size]? = some (.cells zs5.toArray 30 (0, 0)) := c3.blk (blk_alloc _ _) fun x => x
            refine ⟨_, rfl, _, _, rfl, _, rfl, _, _, rfl, _, rfl, _, _, rfl, _, rfl, _, _, rfl, _, rfl, _, _, rfl, _, _, _, rfl, _, _, rfl, _, _, _, rfl, rfl, _, _, rfl, rfl, kept_of_ c3', ?_, trivial⟩
            refine (put4 (w := wx.drew) (vs := vs5 u3 q3 n3 k3) (cs := zs5) b3 c3' (Nat.le_refl _) rfl (by simp [oneC]) fun w4 b4 c4 c4' z4 => ?_ : setsW _ _ _ _ _)
            have cwd : Chg NoS wx w4.drew := ((chg_drew wx NoS).trans c4).trans (chg_drew _ _)
            refine ⟨kept_of_ c4, fun _ w' => Chg NoS wx w' ∧ (∃ x : Pc, x.ok ∧ x.nm = nm ∧ x.pr = pr), ?_, i3.shape, ?_⟩
            · rintro _ wz ⟨cz, x, hx, rfl, rfl⟩ _
              have hlt : (textQ a (L ++ [x])).length = (textQ a L).length + (x.nm.length + x.pr.length + 10) := by
                rw [textQ_snoc]; simp [segQ]; omega
              refine ⟨?_, I0, I1, ?_⟩
              · (show _ ≤ (9223372036854775807 : Int); simp [ByteArray.size_append, bs_size, lit_size]; omega)
              refine some_w ⟨I0, I2, some_w ⟨_, hc1' _ ((c0x.trans cz).trans (chg_drew _ _)), ?_, ?_, _, hc2' _ ((c0x.trans cz).trans (chg_drew _ _)), ?_, (bs (textQ a (L ++ [x])), ((L.length + 1 : Nat) : Int), ((L.length + 1 : Nat) : Int)), ⟨?_, ?_, ?_, trivial⟩, ⟨(cx.trans cz).trans (chg_drew _ _), L ++ [x], by simp, by simp, by simp; omega, by simp; omega, ?_, rfl, ?_, ?_⟩, ?_⟩⟩
              · (show _ ≤ (9223372036854775807 : Int); simp [ByteArray.size_append, bs_size, lit_size]; omega)
              · (show _ ≤ (9223372036854775807 : Int); simp [ByteArray.size_append, bs_size, lit_size]; omega)
              · (show _ ≤ (9223372036854775807 : Int); simp [ByteArray.size_append, bs_size, lit_size]; omega)
              · exact congrArg Value.string (text_bs a L x).symm
              · show Value.int .i64 _ = Value.int .i64 (IntKind.wrap .i64 ((L.length : Int) + 1))
                rw [i64w _ (by omega) (by omega)]; rfl
              · show Value.int .i64 _ = Value.int .i64 (IntKind.wrap .i64 ((L.length : Int) + 1))
                rw [i64w _ (by omega) (by omega)]; rfl
              · intro y hy
                rcases List.mem_append.1 hy with hy | hy
                · exact hok y hy
                · rw [List.mem_singleton.1 hy]; exact hx
              · rw [hlt]; simp only [List.length_append, List.length_singleton]; omega
              · intro j y hy
                by_cases hj : j < L.length
                · rw [List.getElem?_append_left hj] at hy
                  rw [← hA1]; exact hnm j y hy
                · rw [List.getElem?_append_right (by omega)] at hy
                  have hj' : j - L.length = 0 := by
                    have := (List.getElem?_eq_some_iff.1 hy).1
                    simp at this; omega
                  rw [hj'] at hy
                  obtain rfl : x = y := by simpa using hy
                  obtain rfl : j = L.length := by omega
                  exact ⟨A1, rfl, hc1⟩
              · show len1 - (L.length + 1) < len1 - L.length
                omega
            · by_cases h1 : (!isNilI e3) = false
              · rw [if_pos h1]
                refine ⟨_, _, _, ld5 b4 (chg_drew _ _) 4 _ rfl, ?_⟩
                by_cases h2 : ((n3 : Int) != 1) = false
                · rw [if_pos h2]
                  obtain ⟨A, q, hqA, hq, hpc⟩ := probe_ok ho i3 h1 h2
                  refine ⟨I0, I1, ?_⟩
                  refine some_w ⟨_, _, _, ld5 b4 (chg_drew _ _) 4 _ rfl, Int.le_refl _, by simp at h2; omega, ?_⟩
                  rw [hqA]
                  refine some_w ⟨_, cell_keep (cell_keepS (S := NoS) hq c4' (not_str b3 hq)) (chg_drew _ _), _, hc1' _ (c0x.trans cwd), ?_⟩
                  rw [bs_beq]
                  by_cases h3 : q = nm
                  · rw [if_neg (by simp [h3])]
                    exact ⟨(), trivial, cwd, hpc h3⟩
                  · rw [if_pos (by simp [h3])]
                    exact wake2 hL (c0x.trans cwd)
                · rw [if_neg h2]
                  exact wake2 hL (c0x.trans cwd)
              · rw [if_neg h1]
                exact wake2 hL (c0x.trans cwd)
        · refine ⟨I0, I1, ?_⟩
          rw [hA1, hA2]
          refine some_w ⟨_, hc1' _ c0x, ?_⟩
          by_cases h1 : decide (((bs nm).size : Int) > 40) = false
          · rw [if_pos h1]
            refine ⟨I0, I2, ?_⟩
            refine some_w ⟨_, hc2' _ c0x, ?_⟩
            by_cases h2 : decide (((bs pr).size : Int) > 200) = true
            · rw [if_pos h2]
              exact wake2 hL c0x
            · rw [if_neg h2]
              simp only [bs_size] at h1 h2
              exact ⟨(), trivial, rfl, by simp at h1; omega, by simp at h2; omega⟩
          · rw [if_neg h1]
            exact wake2 hL c0x
      · refine iteX (fun h1 h2 => ?_) (fun hn => ?_)
        · exact ⟨(), trivial, rfl, by simp at h1; omega, by simp at h2; omega⟩
        · refine Calls.then (Policy_is (hL.chg c0x).1 (queries_is ho1 hok (by omega))) ?_
          intro v w3 hr
          obtain ⟨c3, u3, q3, n3, k3, e3, rfl, i3⟩ := hr.inf
          refine ⟨_, rfl, _, _, rfl, _, rfl, _, _, rfl, _, rfl, _, _, rfl, _, rfl, _, _, rfl, _, rfl, _, _, rfl, _, _, _, rfl, _, _, rfl, _, _, _, rfl, rfl, _, _, rfl, rfl, ?_⟩
          refine (put4 (w := w3) (vs := vs5 u3 q3 n3 k3) (cs := zs5) (blk_alloc w3 _) (chg_alloc w3 _ _) (Nat.le_refl _) rfl (by simp [oneC]) fun w4 b4 c4 _ z4 => ?_ : setsW _ _ _ _ _)
          have cx4 := c3.trans c4
          have c04 := c0x.trans cx4
          refine ⟨i3.shape, ?_⟩
          by_cases hs : smallS (p :: L.map (·.t)) = true
          · rw [if_pos hs] at i3
            obtain ⟨rfl, h3, g3, hn3, hl3⟩ := i3
            rw [if_neg (by simp [isNilI])]
            have U1 : u1.is w4 p := (P1.keep cx).keep cx4
            have U3 : u3.is w4 p := h3.keep c4
            have G3 := g3.keep c4
            have hn3' : n3 = L.length := by simpa using hn3
            have hLs : L.length ≤ 40 := by omega
            refine ⟨fun _ w' => Chg NoS w4 w', ?_, ?_⟩
            · rintro _ w5 c5 _
              refine ⟨fun s wx => Chg NoS w4 wx ∧ ∃ k : Nat, s = (k : Int), fun s _ => L.length - s.toNat, ⟨0, ⟨rfl, trivial⟩, c5, 0, rfl⟩, ?_⟩
              rintro s wy ⟨cy, k, rfl⟩ _
              by_cases hk : decide ((k : Int) < (L.length : Int)) = true
              · refine (if_pos hk).mpr ?_
                have hk' : k < L.length := by simp at hk; omega
                have K0 : (0 : Int) ≤ (k : Int) := by omega
                have K1 : (k : Int) < (len1 : Int) := by omega
                have K2 : (k : Int) < (n3 : Int) := by omega
                obtain ⟨A, hA, hc⟩ := hnm k L[k] (by simp [hk'])
                obtain ⟨A3, hA3, hq, _⟩ := G3 k (bs L[k].nm, L[k].t) (by simp [bsQ, hk'])
                refine ⟨K0, K1, ?_⟩
                rw [hA]
                refine some_w ⟨_, _, _, ld5 b4 (cy.trans (chg_drew _ _)) 4 _ rfl, K0, K2, ?_⟩
                rw [hA3]
                refine some_w ⟨_, cell_keep hq (cy.trans (chg_drew _ _)), _, cell_keep hc ((c04.trans cy).trans (chg_drew _ _)), ?_⟩
                rw [if_neg (by simp)]
                exact ⟨((k + 1 : Nat) : Int), ⟨by rw [i64w _ (by omega) (by omega)]; rfl, trivial⟩, ⟨cy.trans (chg_drew _ _), k + 1, rfl⟩, by simp; omega⟩
              · refine (if_neg hk).mpr ?_
                exact wake2 hL (c04.trans cy)
            · refine ⟨_, _, _, ld5 b4 (Chg.refl NoS w4) 4 _ rfl, ?_⟩
              rw [if_pos (by simp [hn3'])]
              refine ⟨_, by rw [addK_zero]; exact ld5 b4 (Chg.refl NoS w4) 0 _ rfl, _, by rw [addK_zero]; exact ld5 b4 (Chg.refl NoS w4) 1 _ rfl, _, by rw [addK_zero]; exact ld5 b4 (Chg.refl NoS w4) 2 _ rfl, _, _, _, by rw [addK_zero]; exact ld5 b4 (Chg.refl NoS w4) 3 _ rfl, _, by rw [addK_zero]; exact ld5 b2 (cx.trans cx4) 0 _ rfl, _, by rw [addK_zero]; exact ld5 b2 (cx.trans cx4) 1 _ rfl, _, by rw [addK_zero]; exact ld5 b2 (cx.trans cx4) 2 _ rfl, _, _, _, by rw [addK_zero]; exact ld5 b2 (cx.trans cx4) 3 _ rfl, ?_⟩
              refine Calls.then (Terms_ok p p u3 u1 w4 U3 U1) ?_
              rintro v w5 ⟨bb, rfl, hbb, c5⟩
              obtain rfl : bb = true := hbb.2 rfl
              refine ⟨true, rfl, ?_⟩
              rw [if_neg (by simp)]
              exact ⟨(), trivial, c5⟩
          · rw [if_neg hs] at i3
            obtain ⟨z, rfl, hz⟩ := i3
            rw [if_pos (by simp [isNilI])]
            refine Calls.then (deep_any (.inr ⟨z, 0, [], rfl, c4.blk hz fun x => x⟩)) ?_
            rintro v w5 ⟨rfl, c5⟩
            refine ⟨true, rfl, ?_⟩
            rw [if_pos rfl]
            exact wake2 hL (c04.trans c5)
    · refine ⟨i1.shape, ?_⟩
      by_cases h1 : (!isNilI e1) = false
      · rw [if_pos h1]
        refine ⟨_, _, _, ld5 b2 (Chg.refl NoS w2) 4 _ rfl, ?_⟩
        by_cases h3 : decide ((n1 : Int) > 0) = true
        · rw [if_pos h3]
          exact wake2 hL c02
        · rw [if_neg h3]
          refine ⟨(), trivial, rfl, ?_⟩
          cases o1 with
          | fault _ _ _ => obtain ⟨z, rfl, _⟩ := i1; simp [isNilI] at h1
          | ok p qs =>
            obtain ⟨_, hu, _, hn, _⟩ := i1
            have : n1 = 0 := by simp at h3; omega
            exact ⟨p, by rw [List.length_eq_zero_iff.1 (hn.symm.trans this)], hu⟩
      · rw [if_neg h1]
        exact wake2 hL c02
  · by_cases ha : decide (((bs a).size : Int) > 4096) = false
    · rw [if_pos ha]
      by_cases hb : decide (((len1 : Nat) : Int) > 40) = false
      · rw [if_pos hb]
        by_cases hc : decide (((len2 : Nat) : Int) > 40) = true
        · rw [if_pos hc]
          exact wake2 hL (Chg.refl NoS w)
        · rw [if_neg hc]
          simp only [bs_size] at ha
          exact ⟨(), trivial, rfl, by simp at ha; omega, by simp at hb; omega, by simp at hc; omega⟩
      · rw [if_neg hb]
        exact wake2 hL (Chg.refl NoS w)
    · rw [if_neg ha]
      exact wake2 hL (Chg.refl NoS w)
theorem ParseQueries_walk (s0 : ByteArray) (a1 : Option Addr) (len1 cap1 : Nat) (a2 : Option Addr) (len2 cap2 : Nat) (w : World) (i0 : Is maxLen Tryz.prog w 12 9 [.string s0]) (i1 : Is maxLen Tryz.prog w 12 50 [.slice a1 len1 cap1]) (i2 : Is maxLen Tryz.prog w 12 50 [.slice a2 len2 cap2]) (hL : Libs w) :
    Calls Tryz.prog 5 #[.string s0, .slice a1 len1 cap1, .slice a2 len2 cap2] w (endW (fun v w' => v = .bool true ∧ Chg NoS w w') (fun _ _ => False)) :=
  have h1 := strs_of (e := 9) (by kernel_rfl) (by kernel_rfl) (by kernel_rfl) i1
  have h2 := strs_of (e := 9) (by kernel_rfl) (by kernel_rfl) (by kernel_rfl) i2
  ParseQueries_w s0 a1 len1 cap1 a2 len2 cap2 w hL h1.1 h1.2 h2.1 h2.2
end Go.Proofs.YtgoanblnkdihfaaGreatDoor.B
