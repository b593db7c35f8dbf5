/-
  show: bare walked.
-/
import Derived.Test.YtpolbdakhfcilaaGreatDoorShY
import Derived.Test.YtpolbdakhfcilaaGreatDoorPaE
import Derived.Test.YtpolbdakhfcilaaGreatDoorPaP
import Derived.Test.YtpolbdakhfcilaaGreatDoorPaQ
set_option maxRecDepth 100000
set_option linter.unusedVariables false
set_option linter.unusedSimpArgs false
namespace Go.Proofs.YtpolbdakhfcilaaGreatDoor.B
open Go Go.Proofs Go.Proofs.YtpolbdakhfcilaaGreatDoorEng Go.RowKit

theorem bareL_map : ∀ l : List Tm, bareL l = l.map bareT
  | [] => rfl
  | t :: l => by simp only [bareL, List.map_cons, bareL_map l]
theorem setP {w : World} {g k : Nat} {cs : Array Value} {t : TypeId} {v : Value} {K : World → Prop} (hb : w.heap[g]? = some (.cells cs t (0, 0))) (hk : k < cs.size) (hv : oneC v = true)
    (hK : ∀ w', w'.heap[g]? = some (.cells (cs.setIfInBounds k v) t (0, 0)) → Chg (OnlyB g) w w' → w'.heap.size = w.heap.size → K w') : setW w (addK ⟨g, 0, none⟩ k) v K := by
  rw [addK_lit, Nat.zero_add]
  exact setW_blk hb hk hv hK
abbrev bF (v : V4) : Int := if v.op = 2 ∨ v.op = 7 then v.f else 0
abbrev bN (v : V4) : Int := if v.op = 2 ∨ v.op = 7 then v.n else 0
/-- bare's loop: j kids are copied -/
structure BSt (w wx : World) (v : V4) (ks : List Tm) (j : Nat) : Prop where
  hc : Chg NoS w wx
  p : wx.heap[w.heap.size]? = some (.cells v.arr 26 (0, 0))
  r : wx.heap[w.heap.size + 1]? = some (.cells #[.int .i8 0, .int .i8 0, .int .u64 0, .slice none 0 0] 26 (0, 0))
  b : ∃ us a c, wx.heap[w.heap.size + 2]? = some (.cells #[.int .i8 v.op, .int .i8 (bF v), .int .u64 (bN v), .slice a j c] 26 (0, 0)) ∧ wx.ownsRow (w.heap.size + 3) 26 4 (.slice a j c) j (flat us) ∧ VO wx (fun g => w.heap.size + 3 ≤ g ∧ g < wx.heap.size ∧ (Value.slice a j c).ownBlock ≠ some g) us ((ks.take j).map bareT)
theorem BSt.keep {w wx wy : World} {v : V4} {ks : List Tm} {j : Nat} (h : BSt w wx v ks j) (hc : Chg NoS wx wy) : BSt w wy v ks j := by
  obtain ⟨us, a, c, h1, h2, h3⟩ := h.b
  exact ⟨h.hc.trans hc, hc.blk h.p fun x => x, hc.blk h.r fun x => x, us, a, c, hc.blk h1 fun x => x, own_of_chg h2 hc fun _ _ x => x, h3.keep hc (fun _ _ x => x) fun g hg => ⟨hg.1, by have := hc.size; omega, hg.2.2⟩⟩
theorem get_arr {w : World} {g : Nat} {cs : Array Value} {t : TypeId} (h : w.heap[g]? = some (.cells cs t (0, 0))) (j : Nat) (v : Value) (hv : cs[j]? = some v) : w.cell? (addK ⟨g, 0, none⟩ j) = some v := by
  rw [addK_lit, Nat.zero_add, cell_blk h]; exact hv
theorem kept_only {w w' : World} {g : Nat} (hc : Chg (OnlyB g) w w') : Kept (OnlyB g) w w' := ⟨hc.size, fun b hb hs => hc.block b hb hs⟩
theorem flat_u (u : V4) : flat [u] = u.cells := by simp [flat]
theorem bare_ok : ∀ (t : Tm) (v : V4) (w : World), v.is w t → tsize t ≤ 4096 → Calls Tryz.prog 10 #[.agg v.arr] w (endW (fun r w' => ∃ u : V4, r = .agg u.arr ∧ u.own w' (fun g => w.heap.size ≤ g ∧ g < w'.heap.size) (bareT t) ∧ Chg NoS w w') (fun _ _ => False)) := by
  intro t
  generalize hs : tsize t = sz
  induction sz using Nat.strongRecOn generalizing t with
  | _ sz ih =>
    subst hs
    intro v w hv hsz
    obtain ⟨ks, rfl, hlen, hmc, hcm, h4, hget⟩ := TVal.parts hv
    have hkl : ks.length ≤ 4096 := by
      have := lsize_len ks
      simp only [tsize] at hsz
      omega
    refine F10_calls v.op v.f v.n v.b v.m v.c ?_
    delta F10
    have c1 : Chg NoS w (w.alloc (.cells v.arr 26)) := chg_alloc w _ _
    have b1 : (w.alloc (.cells v.arr 26)).heap[w.heap.size]? = some (.cells v.arr 26 (0, 0)) := blk_alloc w _
    have z1 : (w.alloc (.cells v.arr 26)).heap.size = w.heap.size + 1 := size_alloc w _
    generalize w.alloc (.cells v.arr 26) = w1 at c1 b1 z1 ⊢
    have c2 := c1.trans (chg_alloc w1 (.cells #[.int .i8 0, .int .i8 0, .int .u64 0, .slice none 0 0] 26) NoS)
    have b2 := (chg_alloc w1 (.cells #[.int .i8 0, .int .i8 0, .int .u64 0, .slice none 0 0] 26) NoS).blk b1 fun x => x
    have r2 := blk_alloc w1 (.cells #[.int .i8 0, .int .i8 0, .int .u64 0, .slice none 0 0] 26)
    have z2 := size_alloc w1 (.cells #[.int .i8 0, .int .i8 0, .int .u64 0, .slice none 0 0] 26)
    rw [z1] at r2 z2
    generalize hw2 : w1.alloc (.cells #[.int .i8 0, .int .i8 0, .int .u64 0, .slice none 0 0] 26) = w2 at c2 b2 r2 z2 ⊢
    refine ⟨_, get_arr b2 0 _ rfl, ?_⟩
    have r3 := (chg_alloc w2 (.cells #[.int .i8 0, .int .i8 0, .int .u64 0, .slice none 0 0] 26) NoS).blk r2 fun x => x
    have b3 := (chg_alloc w2 (.cells #[.int .i8 0, .int .i8 0, .int .u64 0, .slice none 0 0] 26) NoS).blk b2 fun x => x
    have c3 := c2.trans (chg_alloc w2 (.cells #[.int .i8 0, .int .i8 0, .int .u64 0, .slice none 0 0] 26) NoS)
    refine (put4 (w := w2) (vs := [.int .i8 v.op, .int .i8 0, .int .u64 0, .slice none 0 0]) (cs := [.int .i8 0, .int .i8 0, .int .u64 0, .slice none 0 0]) (blk_alloc w2 _) (chg_alloc w2 _ _) (Nat.le_refl _) rfl (by simp [oneC]) fun w4 b4 c4 _ z4 => ?_ : setsW _ _ _ _ _)
    rw [size_alloc] at z4
    have p4 := c4.blk b2 fun x => x
    have r4 := c4.blk r2 fun x => x
    have c04 := c2.trans c4
    have st0 : ∀ {w5 : World} {f n : Int}, f = bF v → n = bN v → Chg (OnlyB w2.heap.size) w4 w5 → w5.heap[w2.heap.size]? = some (.cells #[.int .i8 v.op, .int .i8 f, .int .u64 n, .slice none 0 0] 26 (0, 0)) → BSt w w5 v ks 0 := fun hf hn hc hb => by
      subst hf hn
      exact ⟨c04.trans2 hc fun k hk e => by have : k = w2.heap.size := e; omega, hc.blk p4 (fun e => by have : w.heap.size = w2.heap.size := e; omega), hc.blk r4 (fun e => by have : w.heap.size + 1 = w2.heap.size := e; omega), [], none, 0, by rw [z2] at hb; exact hb, own_nil' _ _ _ _, .nil⟩
    refine ⟨fun _ w5 => BSt w w5 v ks 0, ?_, ?_⟩
    · rintro _ w5 h5 _
      refine ⟨_, _, _, get_arr h5.p 3 _ rfl, fun s w6 => ∃ j : Nat, s = (j : Int) ∧ j ≤ v.m ∧ BSt w w6 v ks j, fun s _ => v.m - s.toNat, ⟨0, ⟨rfl, trivial⟩, 0, rfl, by omega, h5⟩, ?_⟩
      rintro s w6 ⟨j, rfl, hj, h6⟩ _
      obtain ⟨us, a, c, hb6, ho6, hv6⟩ := id h6.b
      by_cases hlt : (j : Int) < v.m
      · rw [if_pos (by simpa using hlt)]
        have hjk : j < ks.length := by omega
        obtain ⟨A, hA, hT⟩ := hget j _ (List.getElem?_eq_getElem hjk)
        obtain ⟨o, f, n, b, m, c', q0, q1, q2, q3, hq⟩ := hT.keep h6.hc
        refine ⟨by omega, by omega, ?_⟩
        rw [hA, wSome_some]
        refine ⟨_, q0, _, q1, _, q2, _, _, _, q3, ?_⟩
        refine (put4 (w := w6) (vs := [.int .i8 o, .int .i8 f, .int .u64 n, .slice b m c']) (cs := [.int .i8 0, .int .i8 0, .int .u64 0, .slice none 0 0]) (blk_alloc w6 _) (chg_alloc w6 _ _) (Nat.le_refl _) rfl (by simp [oneC]) fun w10 b10 c10 _ z10 => ?_ : setsW _ _ _ _ _)
        rw [size_alloc] at z10
        have cd := c10.trans (chg_drew w10 NoS)
        have bd : w10.drew.heap[w6.heap.size]? = some (.cells [.int .i8 o, .int .i8 f, .int .u64 n, .slice b m c'].toArray 26 (0, 0)) := (chg_drew w10 NoS).blk b10 fun x => x
        have zd : w10.drew.heap.size = w6.heap.size + 1 := z10
        generalize w10.drew = w11 at cd bd zd ⊢
        have hBk := cd.blk hb6 fun x => x
        rw [← z2] at hBk
        refine ⟨NoS, fun x => x, _, _, _, get_arr hBk 3 _ rfl, fun x => x, _, get_blk bd 0 _ rfl, _, get_blk bd 1 _ rfl, _, get_blk bd 2 _ rfl, _, _, _, get_blk bd 3 _ rfl, ?_⟩
        have hle := tsize_le (List.getElem_mem hjk)
        refine Calls.then (ih _ (tsize_kid (List.getElem_mem hjk)) ks[j] rfl ⟨o, f, n, b, m, c'⟩ w11 (hq.keep cd) (by simp only [tsize] at hsz; omega)) ?_
        rintro r w7 ⟨u, rfl, hu, c7⟩
        refine ⟨_, rfl, _, _, rfl, _, rfl, _, _, rfl, _, rfl, _, _, rfl, _, rfl, _, _, rfl, _, _, _, rfl, rfl, kept_of_ c7, kept_of_ (c7.trans (chg_alloc w7 _ _)), ?_⟩
        have c8 := chg_alloc w7 (.cells u.arr 26) NoS
        have b8 := blk_alloc w7 (.cells u.arr 26)
        have z8 := size_alloc w7 (.cells u.arr 26)
        generalize hw8 : w7.alloc (.cells u.arr 26) = w8 at c8 b8 z8
        have c68 := (cd.trans c7).trans c8
        have h8 := h6.keep c68
        have ho8 := own_of_chg ho6 c68 fun _ _ x => x
        have hv8 := hv6.keep (T := fun g => w.heap.size + 3 ≤ g ∧ g < w6.heap.size ∧ (Value.slice a j c).ownBlock ≠ some g) c68 (fun _ _ x => x) fun _ x => x
        have hu8 := hu.keep (T := fun g => w11.heap.size ≤ g ∧ g < w7.heap.size) c8 (fun _ _ x => x) fun _ x => x
        have hz7 := c7.size
        have hw := h6.hc.size
        have h6z : w.heap.size + 3 ≤ w6.heap.size := by
          have := lt_of_blk hb6
          omega
        have hread : Reads w8 (some ⟨w7.heap.size, 0, none⟩) (flat [u]) := by
          rw [flat_u]
          exact reads_lit b8
        refine terms_append (base := w.heap.size + 3) (n := j) (m := 1) (us := [u]) (vs := us) ho8 rfl hread (fun e => by cases e) (by omega) (by omega) fun a' c'' w9 ho9 c9 hb9 => ⟨_, _, _, rfl, ?_⟩
        have hown : ∀ k, (Value.slice a j c).ownBlock = some k → w.heap.size + 3 ≤ k ∧ k < w6.heap.size := fun k hk => own_ge ho6 hk
        have hB9 := c9.blk (c68.blk hb6 fun x => x) (fun e => by have := hown _ e; omega)
        rw [← z2] at hB9
        refine setP hB9 (by simp) rfl fun w12 b12 c12 z12 => ?_
        refine ⟨((j + 1 : Nat) : Int), ⟨by rw [i64w _ (by omega) (by omega)]; rfl, trivial⟩, ⟨j + 1, rfl, by omega, ?_, ?_, ?_, us ++ [u], a', c'', ?_, ?_, ?_⟩, by simp; omega⟩
        · exact (h8.hc.trans2 c9 fun k hk e => by have := hown k e; omega).trans2 c12 fun k hk e => by have : k = w2.heap.size := e; omega
        · exact c12.blk (c9.blk h8.p fun e => by have := hown _ e; omega) fun e => by have : w.heap.size = w2.heap.size := e; omega
        · exact c12.blk (c9.blk h8.r fun e => by have := hown _ e; omega) fun e => by have : w.heap.size + 1 = w2.heap.size := e; omega
        · rw [← z2]
          exact b12
        · exact own_of_chg ho9 c12 fun k hk e => by
            have : k = w2.heap.size := e
            have := (own_ge ho9 hk).1
            omega
        · rw [List.take_add_one, List.getElem?_eq_getElem hjk, List.map_append]
          have hz9 := c9.size
          refine VO.append (hv8.keep (S' := fun k => (Value.slice a j c).ownBlock = some k ∨ k = w2.heap.size) (w' := w12) ((c9.mono fun k _ e => .inl e).trans (c12.mono fun k _ e => .inr e)) (fun g hg e => ?_) fun g hg => ⟨hg.1, by omega, fun e => ?_⟩) (.cons (hu8.keep (S' := fun k => (Value.slice a j c).ownBlock = some k ∨ k = w2.heap.size) (w' := w12) ((c9.mono fun k _ e => .inl e).trans (c12.mono fun k _ e => .inr e)) (fun g hg e => ?_) fun g hg => ⟨by omega, by omega, fun e => ?_⟩) .nil)
          · rcases e with e | e
            · exact hg.2.2 e
            · omega
          · rcases e with e | e
            · have := hown _ e
              omega
            · omega
          · rcases hb9 g e with e | e
            · have := hown _ e
              omega
            · omega
          · rcases hb9 g e with e | e
            · exact hg.2.2 e
            · omega
      · rw [if_neg (by simpa using hlt)]
        have hjm : j = v.m := by omega
        have hB := hb6
        rw [← z2] at hB
        refine ⟨_, get_arr hB 0 _ rfl, _, get_arr hB 1 _ rfl, _, get_arr hB 2 _ rfl, _, _, _, get_arr hB 3 _ rfl, ?_⟩
        have hR := h6.r
        rw [← z1] at hR
        refine (sets_blk (vs := [.int .i8 v.op, .int .i8 (bF v), .int .u64 (bN v), .slice a j c]) hR rfl (by simp [oneC]) fun w7 b7 c7 z7 => ?_ : setsW _ _ _ _ _)
        refine ⟨_, get_blk b7 0 _ rfl, _, get_blk b7 1 _ rfl, _, get_blk b7 2 _ rfl, _, _, _, get_blk b7 3 _ rfl, ⟨v.op, bF v, bN v, a, j, c⟩, rfl, ?_, h6.hc.trans2 c7 fun k hk e => by have : k = w1.heap.size := e; omega⟩
        have h6z : w.heap.size + 3 ≤ w6.heap.size := by
          have := lt_of_blk hb6
          omega
        have ho7 := own_of_chg ho6 c7 fun k hk e => by
          have : k = w1.heap.size := e
          have := (own_ge ho6 hk).1
          omega
        have hcap := own_cap ho7
        simp only [bareT]
        rw [bareL_map]
        refine own_mk (us := us) ⟨h4.1, h4.2.1, by unfold bF; split <;> omega, by unfold bF; split <;> omega, by unfold bN; split <;> omega, by unfold bN; split <;> omega⟩ (by simp; omega) hcap.1 hcap.2 ?_ (own_reads' ho7) fun A hA => ⟨by subst hA; have := own_ge ho7 (k := A.block) rfl; omega, own_whole ho7 A hA⟩
        rw [List.take_of_length_le (by omega)] at hv6
        exact hv6.keep c7 (fun g hg e => by have : g = w1.heap.size := e; omega) fun g hg => ⟨by omega, by omega⟩
    · refine ⟨_, get_arr p4 0 _ rfl, ?_⟩
      have both : v.op = 2 ∨ v.op = 7 → ∃ S : Nat → Prop, ¬ S (addK ⟨w.heap.size, 0, none⟩ 1).block ∧ ∃ x, w4.drew.cell? (addK ⟨w.heap.size, 0, none⟩ 1) = some (.int .i8 x) ∧ ¬ S (addK ⟨w.heap.size, 0, none⟩ 2).block ∧ ∃ x1, w4.drew.cell? (addK ⟨w.heap.size, 0, none⟩ 2) = some (.int .u64 x1) ∧ setW w4.drew (addK ⟨w2.heap.size, 0, none⟩ 1) (.int .i8 x) fun w5 => Kept S w4.drew w5 ∧ setW w5 (addK ⟨w2.heap.size, 0, none⟩ 2) (.int .u64 x1) fun w9 => ∃ s : Unit, True ∧ BSt w w9 v ks 0 := fun hop => by
        have pd : w4.drew.heap[w.heap.size]? = some (.cells v.arr 26 (0, 0)) := p4
        have bd : w4.drew.heap[w2.heap.size]? = some (.cells #[.int .i8 v.op, .int .i8 0, .int .u64 0, .slice none 0 0] 26 (0, 0)) := b4
        have hne : w.heap.size ≠ w2.heap.size := by omega
        refine ⟨OnlyB w2.heap.size, fun e => hne (by rw [blk_addK] at e; exact e), _, get_arr pd 1 _ rfl, fun e => hne (by rw [blk_addK] at e; exact e), _, get_arr pd 2 _ rfl, ?_⟩
        refine setP bd (by show 1 < 4; omega) rfl fun w5 b5 c5 z5 => ⟨kept_only c5, ?_⟩
        refine setP b5 (by show 2 < 4; omega) rfl fun w6 b6 c6 z6 => ⟨(), trivial, st0 (f := v.f) (n := v.n) ?_ ?_ ((chg_drew w4 _).trans (c5.trans c6)) b6⟩
        · unfold bF
          rw [if_pos hop]
        · unfold bN
          rw [if_pos hop]
      by_cases h2 : v.op = 2
      · rw [if_neg (by simp [h2])]
        exact both (.inl h2)
      · rw [if_pos (by simpa using h2)]
        refine ⟨_, get_arr p4 0 _ rfl, ?_⟩
        by_cases h7 : v.op = 7
        · rw [if_pos (by simpa using h7)]
          exact both (.inr h7)
        · rw [if_neg (by simpa using h7)]
          exact ⟨(), trivial, st0 (by unfold bF; rw [if_neg (by omega)]) (by unfold bN; rw [if_neg (by omega)]) (Chg.refl _ _) b4⟩
end Go.Proofs.YtpolbdakhfcilaaGreatDoor.B
