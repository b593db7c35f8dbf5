/-
  Policies: the law's wakes, by the program.
-/
import Derived.Test.YtbpckcmejkcciaaPolT
import Derived.Test.YtbpckcmejkcciaaBW
set_option maxRecDepth 100000
set_option linter.unusedVariables false
set_option linter.unusedSimpArgs false
namespace Go.Proofs.Ytbpckcmejkcciaa.B
open Go Go.Proofs Go.Proofs.YtbpckcmejkcciaaEng

def yesS : Tm := bareS 1
abbrev yesV : V4 := ⟨1, 0, 0, none, 0, 0⟩
def longS : Tm := .mk 9 0 0 [filS 1, .mk 9 0 0 [setS 1, filS 1]]
def starS : Tm := .mk 10 0 0 [.mk 6 0 0 [.mk 2 9 1 []]]
theorem LFilter_own {w : World} {t : Tm} {v : V4} (hv : v.own w (fun _ => False) t) : Calls Try.prog 23 #[.agg v.arr] w (endW (RetT w (.mk 6 0 0 [t])) (fun _ _ => False)) := by
  refine F23_calls v.op v.f v.n v.b v.m v.c ?_
  delta F23
  have hP0 := mine_alloc (Chg.refl NoS w) v.arr 26
  generalize w.alloc (.cells v.arr 26) = w1 at *
  have hM0 := mine_alloc hP0.2.1 #[.int .i8 0, .int .i8 0, .int .u64 0, .slice none 0 0] 26
  have hP1 := hP0.keep (chg_alloc w1 (.cells #[.int .i8 0, .int .i8 0, .int .u64 0, .slice none 0 0] 26) NoS)
  generalize w1.alloc (.cells #[.int .i8 0, .int .i8 0, .int .u64 0, .slice none 0 0] 26) = w2 at *
  refine get4 hP1 ?_
  have hb := blk_alloc w2 (.cells v.arr 26)
  have hM1 := hM0.keep (chg_alloc w2 (.cells v.arr 26) NoS)
  have hlt := lt_of_blk hM0.1
  generalize w2.alloc (.cells v.arr 26) = w3 at *
  refine set4 ⟨6, 0, 0, some ⟨w2.heap.size, 0, none⟩, 1, 1⟩ hM1 rfl ?_
  intro w4 hM hc
  refine get4 hM ?_
  have hb4 := hc.blk hb (fun e => by have : w2.heap.size = w1.heap.size := e; omega)
  have hz := hM0.2.1.size
  exact ⟨⟨6, 0, 0, some ⟨w2.heap.size, 0, none⟩, 1, 1⟩, rfl, own_mk (us := [v]) ⟨by omega, by omega, by omega, by omega, by omega, by omega⟩ rfl (by omega) (by omega) (.cons (hv.keep hM.2.1 (fun _ x => x.elim) (fun _ x => x.elim)) .nil) (reads_lit hb4) (fun A e => by cases e; exact ⟨by have := hP0.2.1.size; show w.heap.size ≤ w2.heap.size; omega, whole_lit hb4⟩), hM.2.1⟩
theorem keptN {w w' : World} (h : Chg NoS w w') : Kept NoS w w' := ⟨h.size, fun b hb _ => h.block b hb (fun x => x)⟩
/-- what is known once 'long' is set -/
def JL (w : World) (s : Option Addr) (w5 : World) : Prop := ∃ g vL, s = some ⟨g, 0, none⟩ ∧ Mine w w5 g (V4.arr vL) 26 ∧ vL.is w5 longS ∧ Mine w w5 w.heap.size yesV.arr 26
abbrev two (u v : V4) : Array Value := #[.int .i8 u.op, .int .i8 u.f, .int .u64 u.n, .slice u.b u.m u.c, .int .i8 v.op, .int .i8 v.f, .int .u64 v.n, .slice v.b v.m v.c]
theorem tailW {w wd wX : World} {g g1 g2 : Nat} {u1 u2 u3 : V4} (hk : Chg NoS wd wX) (hZ : Mine w wX g #[.int .i8 0, .int .i8 0, .int .u64 0, .slice none 0 0] 26) (hy : Mine w wX w.heap.size yesV.arr 26) (hgd : wd.heap.size ≤ g) (hyg : w.heap.size < g) (h1g : g1 ≠ g) (h2g : g2 ≠ g)
    (hb1 : wX.heap[g1]? = some (.cells (two u2 u3) 26 (0, 0))) (hb2 : wX.heap[g2]? = some (.cells (two u1 ⟨9, 0, 0, some ⟨g1, 0, none⟩, 2, 2⟩) 26 (0, 0)))
    (h1 : u1.own wX (fun b => b ≠ g) (filS 1)) (h2 : u2.own wX (fun b => b ≠ g) (setS 1)) (h3 : u3.own wX (fun b => b ≠ g) (filS 1)) :
    setW wX (addK ⟨g, 0, none⟩ 0) (.int .i8 9) fun w' => setW w' (addK ⟨g, 0, none⟩ 1) (.int .i8 0) fun w' => setW w' (addK ⟨g, 0, none⟩ 2) (.int .u64 0) fun w' => setW w' (addK ⟨g, 0, none⟩ 3) (.slice (some ⟨g2, 0, none⟩) 2 2) fun w' => Kept NoS wd w' ∧ ∃ s, (Value.pointer s = .pointer (some ⟨g, 0, none⟩) ∧ True) ∧ JL w s w' := by
  refine set4 ⟨9, 0, 0, some ⟨g2, 0, none⟩, 2, 2⟩ hZ rfl fun w' hM hc => ?_
  refine ⟨keptN (hk.trans2 hc fun k hk e => by have : k = g := e; omega), _, ⟨rfl, trivial⟩, g, _, rfl, hM, ?_, hc.blk hy.1 (fun e => by have : w.heap.size = g := e; omega), hM.2.1, hy.2.2⟩
  have c1 := hc.blk hb1 (fun e => h1g e)
  have c2 := hc.blk hb2 (fun e => h2g e)
  have k1 := (h1.keep hc (fun b hb e => hb e) (fun b hb => hb)).is
  have k2 := (h2.keep hc (fun b hb e => hb e) (fun b hb => hb)).is
  have k3 := (h3.keep hc (fun b hb e => hb e) (fun b hb => hb)).is
  exact tval_mk (us := [u1, ⟨9, 0, 0, some ⟨g1, 0, none⟩, 2, 2⟩]) ⟨by omega, by omega, by omega, by omega, by omega, by omega⟩ rfl (by omega) (by omega) (.cons k1 (.cons (tval_mk (us := [u2, u3]) ⟨by omega, by omega, by omega, by omega, by omega, by omega⟩ rfl (by omega) (by omega) (.cons k2 (.cons k3 .nil)) (reads_lit c1)) .nil)) (reads_lit c2)
/-- 'yes' in its variable, before or behind what is new -/
theorem yes_own (w : World) : yesV.own w (fun _ => False) yesS := own_bare w _ (by omega)
/-- the answer of policy.Plain, taken apart -/
theorem tup5 {v : V4} {a : Option Addr} {n c : Nat} {e : Int} {K : Int → Int → Int → Option Addr → Nat → Nat → Option Addr → Nat → Nat → Int → Prop} (hK : K v.op v.f v.n v.b v.m v.c a n c e) :
    ∃ vs, Value.tuple #[.agg (parr v a n c), .int .i64 e] = .tuple (List.toArray vs) ∧ ∃ u rest, vs = u :: rest ∧ ∃ vs, u = .agg (List.toArray vs) ∧ ∃ u rest1, vs = u :: rest1 ∧ ∃ x, u = .int .i8 x ∧ ∃ u rest2, rest1 = u :: rest2 ∧ ∃ x1, u = .int .i8 x1 ∧ ∃ u rest3, rest2 = u :: rest3 ∧ ∃ x2, u = .int .u64 x2 ∧ ∃ u rest4, rest3 = u :: rest4 ∧ ∃ a n c, u = .slice a n c ∧ ∃ u rest5, rest4 = u :: rest5 ∧ ∃ a1 n1 c1, u = .slice a1 n1 c1 ∧ rest5 = [] ∧ ∃ u rest6, rest = u :: rest6 ∧ ∃ x5, u = .int .i64 x5 ∧ rest6 = [] ∧ K x x1 x2 a n c a1 n1 c1 x5 :=
  ⟨_, rfl, _, _, rfl, _, rfl, _, _, rfl, _, rfl, _, _, rfl, _, rfl, _, _, rfl, _, rfl, _, _, rfl, _, _, _, rfl, _, _, rfl, _, _, _, rfl, rfl, _, _, rfl, _, rfl, rfl, hK⟩
theorem check_long : checkS longS [] = 0 ∧ plainS longS = setS 1 := by constructor <;> rfl
theorem check_star : checkS starS [] = 0 ∧ plainS starS = filS 1 := by constructor <;> rfl
theorem check_set0 : checkS (setS 0) [] = 170 ∧ predS yesS = 0 ∧ predS (setS 1) = 170 := by refine ⟨?_, ?_, ?_⟩ <;> rfl
theorem PlainOf {w : World} {v : V4} {main t : Tm} (hv : v.is w main) (h : checkS main [] = 0 ∧ plainS main = t) : Calls Try.prog 14 #[.agg (parr v none 0 0)] w (endW (RetP w t []) (fun _ _ => False)) := by
  refine Calls.then (PlainP_ok (qs := []) (qa := none) (qn := 0) (qc := 0) hv (qs_none _) rfl) ?_
  intro r w6 hr
  rw [if_pos h.1, h.2] at hr
  exact hr
/-- what is known of a plain policy in a variable -/
def JP (w : World) (t : Tm) (s : Option Addr × Int) (w6 : World) : Prop := s.2 = 0 ∧ ∃ g u a c, s.1 = some ⟨g, 0, none⟩ ∧ Mine w w6 g (parr u a 0 c) 29 ∧ V4.own u w6 (fun _ => True) t
theorem JP.keep {w w6 w7 : World} {t : Tm} {s : Option Addr × Int} (h : JP w t s w6) (hc : Chg NoS w6 w7) : JP w t s w7 := by
  obtain ⟨h0, g, u, a, c, h1, h2, h3⟩ := h
  exact ⟨h0, g, u, a, c, h1, h2.keep hc, h3.keepN hc⟩
theorem Wakes_ok (w : World) : Calls Try.prog 13 #[] w (endW (fun r w' => r = .bool true ∧ Chg NoS w w') (fun _ _ => False)) := by
  refine F13_calls ?_
  delta F13
  refine set4 yesV (mine_alloc (Chg.refl NoS w) #[.int .i8 0, .int .i8 0, .int .u64 0, .slice none 0 0] 26) rfl fun w4 hy _ => ?_
  refine ⟨JL w, ?_, ?_⟩
  rotate_left
  · have hcd := chg_drew w4 NoS
    have hyd := hy.keep hcd
    have hlt := lt_of_blk hyd.1
    refine ⟨NoS, fun x => x, ?_⟩
    generalize w4.drew = wd at *
    refine get4 hyd ⟨fun x => x, get4 hyd ?_⟩
    refine ⟨?_, ?_, trivial⟩
    · refine Calls.then (LFilter_own (yes_own wd)) ?_
      rintro r V1 ⟨u1, rfl, o1, c1⟩
      have z1 := c1.size
      refine agg4 ⟨keptN ((Chg.refl NoS wd).trans c1), ?_⟩
      refine ⟨?_, ?_, trivial⟩
      · refine Calls.then (Set_ok V1 (n := 1) (by omega)) ?_
        rintro r V2 ⟨u2, rfl, o2, c2⟩
        have z2 := c2.size
        refine agg4 ⟨keptN (c1.trans c2), ?_⟩
        refine ⟨?_, ?_, trivial⟩
        · refine Calls.then (LFilter_own (yes_own V2)) ?_
          rintro r V3 ⟨u3, rfl, o3, c3⟩
          have z3 := c3.size
          refine agg4 ⟨keptN ((c1.trans c2).trans c3), ?_⟩
          refine ⟨?_, ?_, trivial⟩
          · have b4 := blk_alloc V3 (.cells (two u2 u3) 26)
            have c4 := chg_alloc V3 (.cells (two u2 u3) 26) NoS
            have z4 := size_alloc V3 (.cells (two u2 u3) 26)
            refine ⟨keptN (((c1.trans c2).trans c3).trans c4), ?_⟩
            generalize V3.alloc (.cells (two u2 u3) 26) = V4 at *
            refine ⟨?_, ?_, trivial⟩
            · have b5 := blk_alloc V4 (.cells (two u1 ⟨9, 0, 0, some ⟨V3.heap.size, 0, none⟩, 2, 2⟩) 26)
              have c5 := chg_alloc V4 (.cells (two u1 ⟨9, 0, 0, some ⟨V3.heap.size, 0, none⟩, 2, 2⟩) 26) NoS
              have z5 := size_alloc V4 (.cells (two u1 ⟨9, 0, 0, some ⟨V3.heap.size, 0, none⟩, 2, 2⟩) 26)
              refine ⟨keptN ((((c1.trans c2).trans c3).trans c4).trans c5), ?_⟩
              generalize V4.alloc (.cells (two u1 ⟨9, 0, 0, some ⟨V3.heap.size, 0, none⟩, 2, 2⟩) 26) = V5 at *
              refine ⟨?_, trivial⟩
              have m6 := mine_alloc (hyd.keep ((((c1.trans c2).trans c3).trans c4).trans c5)).2.1 #[.int .i8 0, .int .i8 0, .int .u64 0, .slice none 0 0] 26
              have c6 := chg_alloc V5 (.cells #[.int .i8 0, .int .i8 0, .int .u64 0, .slice none 0 0] 26) NoS
              have z6 := size_alloc V5 (.cells #[.int .i8 0, .int .i8 0, .int .u64 0, .slice none 0 0] 26)
              refine ⟨keptN (((((c1.trans c2).trans c3).trans c4).trans c5).trans c6), ?_⟩
              generalize V5.alloc (.cells #[.int .i8 0, .int .i8 0, .int .u64 0, .slice none 0 0] 26) = V6 at *
              exact ⟨tailW (((((c1.trans c2).trans c3).trans c4).trans c5).trans c6) (m6.keep (Chg.refl NoS V6)) (hyd.keep (((((c1.trans c2).trans c3).trans c4).trans c5).trans c6)) (by omega) (by omega) (by omega) (by omega) ((c5.trans c6).blk b4 (fun x => x)) (c6.blk b5 (fun x => x)) ((o1.lt.keepN ((((c2.trans c3).trans c4).trans c5).trans c6)).mono (fun b hb e => by omega)) ((o2.lt.keepN (((c3.trans c4).trans c5).trans c6)).mono (fun b hb e => by omega)) ((o3.lt.keepN ((c4.trans c5).trans c6)).mono (fun b hb e => by omega)), trivial⟩
            · have m7 := mine_alloc (hyd.keep (((c1.trans c2).trans c3).trans c4)).2.1 #[.int .i8 0, .int .i8 0, .int .u64 0, .slice none 0 0] 26
              have c7 := chg_alloc V4 (.cells #[.int .i8 0, .int .i8 0, .int .u64 0, .slice none 0 0] 26) NoS
              have z7 := size_alloc V4 (.cells #[.int .i8 0, .int .i8 0, .int .u64 0, .slice none 0 0] 26)
              refine ⟨keptN ((((c1.trans c2).trans c3).trans c4).trans c7), ?_⟩
              generalize V4.alloc (.cells #[.int .i8 0, .int .i8 0, .int .u64 0, .slice none 0 0] 26) = V7 at *
              refine ⟨?_, trivial⟩
              have b8 := blk_alloc V7 (.cells (two u1 ⟨9, 0, 0, some ⟨V3.heap.size, 0, none⟩, 2, 2⟩) 26)
              have c8 := chg_alloc V7 (.cells (two u1 ⟨9, 0, 0, some ⟨V3.heap.size, 0, none⟩, 2, 2⟩) 26) NoS
              have z8 := size_alloc V7 (.cells (two u1 ⟨9, 0, 0, some ⟨V3.heap.size, 0, none⟩, 2, 2⟩) 26)
              refine ⟨keptN (((((c1.trans c2).trans c3).trans c4).trans c7).trans c8), ?_⟩
              generalize V7.alloc (.cells (two u1 ⟨9, 0, 0, some ⟨V3.heap.size, 0, none⟩, 2, 2⟩) 26) = V8 at *
              exact ⟨tailW (((((c1.trans c2).trans c3).trans c4).trans c7).trans c8) (m7.keep c8) (hyd.keep (((((c1.trans c2).trans c3).trans c4).trans c7).trans c8)) (by omega) (by omega) (by omega) (by omega) ((c7.trans c8).blk b4 (fun x => x)) ((Chg.refl NoS V8).blk b8 (fun x => x)) ((o1.lt.keepN ((((c2.trans c3).trans c4).trans c7).trans c8)).mono (fun b hb e => by omega)) ((o2.lt.keepN (((c3.trans c4).trans c7).trans c8)).mono (fun b hb e => by omega)) ((o3.lt.keepN ((c4.trans c7).trans c8)).mono (fun b hb e => by omega)), trivial⟩
          · have m9 := mine_alloc (hyd.keep ((c1.trans c2).trans c3)).2.1 #[.int .i8 0, .int .i8 0, .int .u64 0, .slice none 0 0] 26
            have c9 := chg_alloc V3 (.cells #[.int .i8 0, .int .i8 0, .int .u64 0, .slice none 0 0] 26) NoS
            have z9 := size_alloc V3 (.cells #[.int .i8 0, .int .i8 0, .int .u64 0, .slice none 0 0] 26)
            refine ⟨keptN (((c1.trans c2).trans c3).trans c9), ?_⟩
            generalize V3.alloc (.cells #[.int .i8 0, .int .i8 0, .int .u64 0, .slice none 0 0] 26) = V9 at *
            refine ⟨?_, trivial⟩
            have b10 := blk_alloc V9 (.cells (two u2 u3) 26)
            have c10 := chg_alloc V9 (.cells (two u2 u3) 26) NoS
            have z10 := size_alloc V9 (.cells (two u2 u3) 26)
            refine ⟨keptN ((((c1.trans c2).trans c3).trans c9).trans c10), ?_⟩
            generalize V9.alloc (.cells (two u2 u3) 26) = V10 at *
            refine ⟨?_, trivial⟩
            have b11 := blk_alloc V10 (.cells (two u1 ⟨9, 0, 0, some ⟨V9.heap.size, 0, none⟩, 2, 2⟩) 26)
            have c11 := chg_alloc V10 (.cells (two u1 ⟨9, 0, 0, some ⟨V9.heap.size, 0, none⟩, 2, 2⟩) 26) NoS
            have z11 := size_alloc V10 (.cells (two u1 ⟨9, 0, 0, some ⟨V9.heap.size, 0, none⟩, 2, 2⟩) 26)
            refine ⟨keptN (((((c1.trans c2).trans c3).trans c9).trans c10).trans c11), ?_⟩
            generalize V10.alloc (.cells (two u1 ⟨9, 0, 0, some ⟨V9.heap.size, 0, none⟩, 2, 2⟩) 26) = V11 at *
            exact ⟨tailW (((((c1.trans c2).trans c3).trans c9).trans c10).trans c11) (m9.keep (c10.trans c11)) (hyd.keep (((((c1.trans c2).trans c3).trans c9).trans c10).trans c11)) (by omega) (by omega) (by omega) (by omega) (c11.blk b10 (fun x => x)) ((Chg.refl NoS V11).blk b11 (fun x => x)) ((o1.lt.keepN ((((c2.trans c3).trans c9).trans c10).trans c11)).mono (fun b hb e => by omega)) ((o2.lt.keepN (((c3.trans c9).trans c10).trans c11)).mono (fun b hb e => by omega)) ((o3.lt.keepN ((c9.trans c10).trans c11)).mono (fun b hb e => by omega)), trivial⟩
        · have m12 := mine_alloc (hyd.keep (c1.trans c2)).2.1 #[.int .i8 0, .int .i8 0, .int .u64 0, .slice none 0 0] 26
          have c12 := chg_alloc V2 (.cells #[.int .i8 0, .int .i8 0, .int .u64 0, .slice none 0 0] 26) NoS
          have z12 := size_alloc V2 (.cells #[.int .i8 0, .int .i8 0, .int .u64 0, .slice none 0 0] 26)
          refine ⟨keptN ((c1.trans c2).trans c12), ?_⟩
          generalize V2.alloc (.cells #[.int .i8 0, .int .i8 0, .int .u64 0, .slice none 0 0] 26) = V12 at *
          refine ⟨?_, trivial⟩
          refine Calls.then (LFilter_own (yes_own V12)) ?_
          rintro r V13 ⟨u3, rfl, o13, c13⟩
          have z13 := c13.size
          refine agg4 ⟨keptN (((c1.trans c2).trans c12).trans c13), ?_⟩
          refine ⟨?_, trivial⟩
          have b14 := blk_alloc V13 (.cells (two u2 u3) 26)
          have c14 := chg_alloc V13 (.cells (two u2 u3) 26) NoS
          have z14 := size_alloc V13 (.cells (two u2 u3) 26)
          refine ⟨keptN ((((c1.trans c2).trans c12).trans c13).trans c14), ?_⟩
          generalize V13.alloc (.cells (two u2 u3) 26) = V14 at *
          refine ⟨?_, trivial⟩
          have b15 := blk_alloc V14 (.cells (two u1 ⟨9, 0, 0, some ⟨V13.heap.size, 0, none⟩, 2, 2⟩) 26)
          have c15 := chg_alloc V14 (.cells (two u1 ⟨9, 0, 0, some ⟨V13.heap.size, 0, none⟩, 2, 2⟩) 26) NoS
          have z15 := size_alloc V14 (.cells (two u1 ⟨9, 0, 0, some ⟨V13.heap.size, 0, none⟩, 2, 2⟩) 26)
          refine ⟨keptN (((((c1.trans c2).trans c12).trans c13).trans c14).trans c15), ?_⟩
          generalize V14.alloc (.cells (two u1 ⟨9, 0, 0, some ⟨V13.heap.size, 0, none⟩, 2, 2⟩) 26) = V15 at *
          exact ⟨tailW (((((c1.trans c2).trans c12).trans c13).trans c14).trans c15) (m12.keep ((c13.trans c14).trans c15)) (hyd.keep (((((c1.trans c2).trans c12).trans c13).trans c14).trans c15)) (by omega) (by omega) (by omega) (by omega) (c15.blk b14 (fun x => x)) ((Chg.refl NoS V15).blk b15 (fun x => x)) ((o1.lt.keepN ((((c2.trans c12).trans c13).trans c14).trans c15)).mono (fun b hb e => by omega)) ((o2.lt.keepN (((c12.trans c13).trans c14).trans c15)).mono (fun b hb e => by omega)) ((o13.lt.keepN (c14.trans c15)).mono (fun b hb e => by omega)), trivial⟩
      · have m16 := mine_alloc (hyd.keep c1).2.1 #[.int .i8 0, .int .i8 0, .int .u64 0, .slice none 0 0] 26
        have c16 := chg_alloc V1 (.cells #[.int .i8 0, .int .i8 0, .int .u64 0, .slice none 0 0] 26) NoS
        have z16 := size_alloc V1 (.cells #[.int .i8 0, .int .i8 0, .int .u64 0, .slice none 0 0] 26)
        refine ⟨keptN (c1.trans c16), ?_⟩
        generalize V1.alloc (.cells #[.int .i8 0, .int .i8 0, .int .u64 0, .slice none 0 0] 26) = V16 at *
        refine ⟨?_, trivial⟩
        refine Calls.then (Set_ok V16 (n := 1) (by omega)) ?_
        rintro r V17 ⟨u2, rfl, o17, c17⟩
        have z17 := c17.size
        refine agg4 ⟨keptN ((c1.trans c16).trans c17), ?_⟩
        refine ⟨?_, trivial⟩
        refine Calls.then (LFilter_own (yes_own V17)) ?_
        rintro r V18 ⟨u3, rfl, o18, c18⟩
        have z18 := c18.size
        refine agg4 ⟨keptN (((c1.trans c16).trans c17).trans c18), ?_⟩
        refine ⟨?_, trivial⟩
        have b19 := blk_alloc V18 (.cells (two u2 u3) 26)
        have c19 := chg_alloc V18 (.cells (two u2 u3) 26) NoS
        have z19 := size_alloc V18 (.cells (two u2 u3) 26)
        refine ⟨keptN ((((c1.trans c16).trans c17).trans c18).trans c19), ?_⟩
        generalize V18.alloc (.cells (two u2 u3) 26) = V19 at *
        refine ⟨?_, trivial⟩
        have b20 := blk_alloc V19 (.cells (two u1 ⟨9, 0, 0, some ⟨V18.heap.size, 0, none⟩, 2, 2⟩) 26)
        have c20 := chg_alloc V19 (.cells (two u1 ⟨9, 0, 0, some ⟨V18.heap.size, 0, none⟩, 2, 2⟩) 26) NoS
        have z20 := size_alloc V19 (.cells (two u1 ⟨9, 0, 0, some ⟨V18.heap.size, 0, none⟩, 2, 2⟩) 26)
        refine ⟨keptN (((((c1.trans c16).trans c17).trans c18).trans c19).trans c20), ?_⟩
        generalize V19.alloc (.cells (two u1 ⟨9, 0, 0, some ⟨V18.heap.size, 0, none⟩, 2, 2⟩) 26) = V20 at *
        exact ⟨tailW (((((c1.trans c16).trans c17).trans c18).trans c19).trans c20) (m16.keep (((c17.trans c18).trans c19).trans c20)) (hyd.keep (((((c1.trans c16).trans c17).trans c18).trans c19).trans c20)) (by omega) (by omega) (by omega) (by omega) (c20.blk b19 (fun x => x)) ((Chg.refl NoS V20).blk b20 (fun x => x)) ((o1.lt.keepN ((((c16.trans c17).trans c18).trans c19).trans c20)).mono (fun b hb e => by omega)) ((o17.lt.keepN ((c18.trans c19).trans c20)).mono (fun b hb e => by omega)) ((o18.lt.keepN (c19.trans c20)).mono (fun b hb e => by omega)), trivial⟩
    · have m21 := mine_alloc (hyd.keep (Chg.refl NoS wd)).2.1 #[.int .i8 0, .int .i8 0, .int .u64 0, .slice none 0 0] 26
      have c21 := chg_alloc wd (.cells #[.int .i8 0, .int .i8 0, .int .u64 0, .slice none 0 0] 26) NoS
      have z21 := size_alloc wd (.cells #[.int .i8 0, .int .i8 0, .int .u64 0, .slice none 0 0] 26)
      refine ⟨keptN ((Chg.refl NoS wd).trans c21), ?_⟩
      generalize wd.alloc (.cells #[.int .i8 0, .int .i8 0, .int .u64 0, .slice none 0 0] 26) = V21 at *
      refine ⟨?_, trivial⟩
      refine Calls.then (LFilter_own (yes_own V21)) ?_
      rintro r V22 ⟨u1, rfl, o22, c22⟩
      have z22 := c22.size
      refine agg4 ⟨keptN (c21.trans c22), ?_⟩
      refine ⟨?_, trivial⟩
      refine Calls.then (Set_ok V22 (n := 1) (by omega)) ?_
      rintro r V23 ⟨u2, rfl, o23, c23⟩
      have z23 := c23.size
      refine agg4 ⟨keptN ((c21.trans c22).trans c23), ?_⟩
      refine ⟨?_, trivial⟩
      refine Calls.then (LFilter_own (yes_own V23)) ?_
      rintro r V24 ⟨u3, rfl, o24, c24⟩
      have z24 := c24.size
      refine agg4 ⟨keptN (((c21.trans c22).trans c23).trans c24), ?_⟩
      refine ⟨?_, trivial⟩
      have b25 := blk_alloc V24 (.cells (two u2 u3) 26)
      have c25 := chg_alloc V24 (.cells (two u2 u3) 26) NoS
      have z25 := size_alloc V24 (.cells (two u2 u3) 26)
      refine ⟨keptN ((((c21.trans c22).trans c23).trans c24).trans c25), ?_⟩
      generalize V24.alloc (.cells (two u2 u3) 26) = V25 at *
      refine ⟨?_, trivial⟩
      have b26 := blk_alloc V25 (.cells (two u1 ⟨9, 0, 0, some ⟨V24.heap.size, 0, none⟩, 2, 2⟩) 26)
      have c26 := chg_alloc V25 (.cells (two u1 ⟨9, 0, 0, some ⟨V24.heap.size, 0, none⟩, 2, 2⟩) 26) NoS
      have z26 := size_alloc V25 (.cells (two u1 ⟨9, 0, 0, some ⟨V24.heap.size, 0, none⟩, 2, 2⟩) 26)
      refine ⟨keptN (((((c21.trans c22).trans c23).trans c24).trans c25).trans c26), ?_⟩
      generalize V25.alloc (.cells (two u1 ⟨9, 0, 0, some ⟨V24.heap.size, 0, none⟩, 2, 2⟩) 26) = V26 at *
      exact ⟨tailW (((((c21.trans c22).trans c23).trans c24).trans c25).trans c26) (m21.keep ((((c22.trans c23).trans c24).trans c25).trans c26)) (hyd.keep (((((c21.trans c22).trans c23).trans c24).trans c25).trans c26)) (by omega) (by omega) (by omega) (by omega) (c26.blk b25 (fun x => x)) ((Chg.refl NoS V26).blk b26 (fun x => x)) ((o22.lt.keepN (((c23.trans c24).trans c25).trans c26)).mono (fun b hb e => by omega)) ((o23.lt.keepN ((c24.trans c25).trans c26)).mono (fun b hb e => by omega)) ((o24.lt.keepN (c25.trans c26)).mono (fun b hb e => by omega)), trivial⟩
  rintro _ w5 ⟨gL, vL, rfl, hL, hvL, hy5⟩ _
  refine ⟨fun s w6 => JP w (setS 1) s w6 ∧ Mine w w6 w.heap.size yesV.arr 26, ?_, ?_⟩
  rotate_left
  · rw [wSome_some]
    refine get4 hL ?_
    refine Calls.then (PlainOf hvL check_long) ?_
    rintro r w6 ⟨u, us, a, c, rfl, _, hu, _, hc6⟩
    refine tup5 ?_
    refine set5p u a _ c (mine_alloc (hL.2.1.trans hc6) #[.int .i8 0, .int .i8 0, .int .u64 0, .slice none 0 0, .slice none 0 0] 29) trivial fun w7 hM hc => ?_
    have hlt := lt_of_blk hy5.1
    have hz6 := hc6.size
    have hca := chg_alloc w6 (.cells #[.int .i8 0, .int .i8 0, .int .u64 0, .slice none 0 0, .slice none 0 0] 29) NoS
    refine ⟨(some ⟨w6.heap.size, 0, none⟩, 0), ⟨rfl, rfl, trivial⟩, ⟨rfl, w6.heap.size, u, a, c, rfl, hM, ?_⟩, ?_⟩
    · exact ((hu.lt.keepN hca).keep hc (fun b hb e => by have : b = w6.heap.size := e; omega) (fun b hb => trivial))
    · exact ⟨hc.blk (hca.blk (hc6.blk hy5.1 (fun x => x)) (fun x => x)) (fun e => by have : w.heap.size = w6.heap.size := e; omega), hM.2.1, hy5.2.2⟩
  rintro s w6 ⟨hs, hy6⟩ _
  refine ⟨fun s1 w7 => JP w (setS 1) s w7 ∧ JP w (filS 1) s1 w7 ∧ Mine w w7 w.heap.size yesV.arr 26, ?_, ?_⟩
  rotate_left
  · have hw6 := hy6.2.1
    have hlt6 := lt_of_blk hy6.1
    refine Calls.then (LFilter_own (v := ⟨2, 9, 1, none, 0, 0⟩) (t := .mk 2 9 1 []) (own_mk (us := []) ⟨by omega, by omega, by omega, by omega, by omega, by omega⟩ rfl (by omega) (by omega) .nil (fun j u hu => by simp [flat] at hu) (fun A e => by cases e))) ?_
    rintro r w7 ⟨u, rfl, hu, hc7⟩
    refine agg4 ?_
    have hb8 := blk_alloc w7 (.cells u.arr 26)
    have hc8 := chg_alloc w7 (.cells u.arr 26) NoS
    generalize w7.alloc (.cells u.arr 26) = w8 at *
    have hv : V4.is ⟨10, 0, 0, some ⟨w7.heap.size, 0, none⟩, 1, 1⟩ w8 starS := tval_mk (us := [u]) ⟨by omega, by omega, by omega, by omega, by omega, by omega⟩ rfl (by omega) (by omega) (.cons (hu.keepN hc8).is .nil) (reads_lit hb8)
    refine Calls.then (PlainOf (v := ⟨10, 0, 0, some ⟨w7.heap.size, 0, none⟩, 1, 1⟩) hv check_star) ?_
    rintro r w9 ⟨p, ps, a, c, rfl, _, hp, _, hc9⟩
    refine tup5 ?_
    have hc69 := (hc7.trans hc8).trans hc9
    have hz9 := hc69.size
    refine set5p p a _ c (mine_alloc (hw6.trans hc69) #[.int .i8 0, .int .i8 0, .int .u64 0, .slice none 0 0, .slice none 0 0] 29) trivial fun w10 hM hc => ?_
    have hca := chg_alloc w9 (.cells #[.int .i8 0, .int .i8 0, .int .u64 0, .slice none 0 0, .slice none 0 0] 29) NoS
    obtain ⟨h0, g, u', a', c', h1, h2, h3⟩ := hs
    have hltg := lt_of_blk h2.1
    refine ⟨(some ⟨w9.heap.size, 0, none⟩, 0), ⟨rfl, rfl, trivial⟩, ⟨h0, g, u', a', c', h1, ⟨hc.blk ((hc69.trans hca).blk h2.1 (fun x => x)) (fun e => by have : g = w9.heap.size := e; omega), hM.2.1, h2.2.2⟩, ?_⟩, ⟨rfl, w9.heap.size, p, a, c, rfl, hM, ?_⟩, ?_⟩
    · exact ((h3.lt.keepN (hc69.trans hca)).keep hc (fun b hb e => by have : b = w9.heap.size := e; omega) (fun b hb => trivial))
    · exact ((hp.lt.keepN hca).keep hc (fun b hb e => by have : b = w9.heap.size := e; omega) (fun b hb => trivial))
    · exact ⟨hc.blk ((hc69.trans hca).blk hy6.1 (fun x => x)) (fun e => by have : w.heap.size = w9.heap.size := e; omega), hM.2.1, hy6.2.2⟩
  rintro s1 w7 ⟨⟨h0, g, u, a, c, h1, h2, h3⟩, ⟨k0, g', u', a', c', k1, k2, k3⟩, hy7⟩ _
  obtain ⟨s_a, s_e⟩ := s
  obtain ⟨t_a, t_e⟩ := s1
  dsimp only at h0 h1 k0 k1
  subst h0 h1 k0 k1
  refine ⟨NoS, ?_⟩
  have hcd := chg_drew w7 NoS
  have h2d := h2.keep hcd
  have h3d := (h3.keepN hcd).is
  have k2d := k2.keep hcd
  have k3d := (k3.keepN hcd).is
  have hyd := hy7.keep hcd
  generalize w7.drew = wd at *
  dsimp only
  rw [if_pos (by decide), wSome_some]
  refine ⟨fun x => x, _, (wp_cell h2d 0).trans rfl, _, (wp_cell h2d 1).trans rfl, _, (wp_cell h2d 2).trans rfl, _, _, _, (wp_cell h2d 3).trans rfl, ?_⟩
  refine Calls.then (Set_ok wd (n := 1) (by omega)) ?_
  rintro r w8 ⟨u8, rfl, hu8, hc8⟩
  refine agg4 ⟨keptN hc8, ?_⟩
  refine Calls.then (Terms_ok (setS 1) (setS 1) u u8 w8 (TVal.keep hc8 h3d) hu8.is) ?_
  rintro r w9 ⟨b9, rfl, hb9, hc9⟩
  have hc9 := hc8.trans hc9
  refine ⟨_, rfl, keptN hc9, ?_⟩
  rw [if_pos (hb9.2 rfl), if_pos (by decide), wSome_some]
  refine ⟨fun x => x, _, (wp_cell k2d 0).trans rfl, _, (wp_cell k2d 1).trans rfl, _, (wp_cell k2d 2).trans rfl, _, _, _, (wp_cell k2d 3).trans rfl, fun x => x, ?_⟩
  refine get4 hyd ?_
  refine Calls.then (LFilter_own (yes_own w9)) ?_
  rintro r w10 ⟨u10, rfl, hu10, hc10⟩
  have hcx := hc9.trans hc10
  refine agg4 ⟨keptN hcx, ?_⟩
  refine Calls.then (Terms_ok (filS 1) (filS 1) u' u10 w10 (TVal.keep hcx k3d) hu10.is) ?_
  rintro r w11 ⟨b11, rfl, hb11, hc11⟩
  have hc11 := hcx.trans hc11
  refine ⟨_, rfl, keptN hc11, ?_⟩
  rw [if_pos (hb11.2 rfl)]
  refine Calls.then (Set_ok w11 (n := 0) (by omega)) ?_
  rintro r w12 ⟨u12, rfl, hu12, hc12⟩
  have hc12 := hc11.trans hc12
  refine agg4 ⟨keptN hc12, ?_⟩
  refine Calls.then (Check_ok (qs := []) (qa := none) (qn := 0) (qc := 0) hu12.is (qs_none _) rfl) ?_
  rintro r w13 ⟨rfl, hc13⟩
  have hc13 := hc12.trans hc13
  refine ⟨_, rfl, keptN hc13, ?_⟩
  rw [check_set0.1, if_pos (by decide)]
  refine ⟨fun x => x, get4 hyd ?_⟩
  refine Calls.then (Pred_ok (t := yesS) (v := yesV) (yes_own w13).is) ?_
  rintro r w14 ⟨rfl, hc14⟩
  have hc14 := hc13.trans hc14
  refine ⟨_, rfl, ?_⟩
  rw [check_set0.2.1, if_pos (by decide)]
  refine Calls.then (Set_ok w14 (n := 1) (by omega)) ?_
  rintro r w15 ⟨u15, rfl, hu15, hc15⟩
  refine agg4 ?_
  refine Calls.then (Pred_ok hu15.is) ?_
  rintro r w16 ⟨rfl, hc16⟩
  refine ⟨_, rfl, ?_⟩
  rw [check_set0.2.2]
  exact ⟨rfl, hyd.2.1.trans ((hc14.trans hc15).trans hc16)⟩
end Go.Proofs.Ytbpckcmejkcciaa.B
