import Derived.Test.YtpolbdakhfcilaaGreatDoorShP
import Derived.Test.YtpolbdakhfcilaaGreatDoorPaQ
import Derived.Test.YtpolbdakhfcilaaGreatDoorBI
import Derived.Test.YtpolbdakhfcilaaGreatDoorPaMO
import Derived.Test.YtpolbdakhfcilaaGreatDoorEngO
import Derived.Test.YtpolbdakhfcilaaGreatDoorRows
import Derived.LaidHandle
import Derived.LaidLaws
import Derived.LaidMore
import Derived.Lib.LaidTab
import Derived.MakeChecks
import Derived.OpenShut
/-
  show: the text by hand.
-/
set_option maxRecDepth 100000
set_option linter.unusedVariables false
set_option linter.unusedSimpArgs false
namespace Go.Proofs.YtpolbdakhfcilaaGreatDoor.B
open Go Go.Proofs Go.Proofs.YtpolbdakhfcilaaGreatDoorEng Go.RowKit

/-- what the laid variables hold -/
def Libs (w : World) : Prop := Errs w ∧ H.Tab w
theorem Libs.chg {w w' : World} (h : Libs w) (hc : Chg NoS w w') : Libs w' := ⟨h.1.chg hc, h.2.chg hc⟩
def wt : List UInt8 := [102, 105, 108, 116, 101, 114, 32, 112, 111, 114, 116, 61, 49, 59, 112, 111, 114, 116, 58, 61, 50, 43, 100, 114, 111, 112]
def wm : Tm := .mk 8 0 0 [.mk 9 0 0 [.mk 6 0 0 [.mk 2 9 1 []], .mk 7 9 2 []], .mk 6 0 0 [.mk 0 0 0 []]]
def wx : List UInt8 := [102, 105, 108, 116, 101, 114, 32, 112, 111, 114, 116, 32, 61, 32, 49, 32, 59, 32, 112, 111, 114, 116, 32, 58, 61, 32, 50, 32, 43, 32, 100, 114, 111, 112, 10]
def wwds : List Wd := [⟨1, [102, 105, 108, 116, 101, 114], 0, 0⟩, ⟨1, [112, 111, 114, 116], 0, 7⟩, ⟨3, [61], 0, 11⟩, ⟨2, [49], 1, 12⟩, ⟨3, [59], 0, 13⟩, ⟨1, [112, 111, 114, 116], 0, 14⟩, ⟨3, [58, 61], 0, 18⟩, ⟨2, [50], 2, 20⟩, ⟨3, [43], 0, 21⟩, ⟨1, [100, 114, 111, 112], 0, 22⟩, ⟨0, [], 0, 26⟩]
theorem wall : allR wt = .inl wwds := by kernel_rfl
theorem wpol : PolP wt (.ok wm []) := by
  unfold PolP
  rw [wall]
  exact .inr ⟨wm, 10, [], 10, true, ⟨0, [], 0, 26⟩, ⟨by simp, 60, by kernel_rfl⟩, .stop (by kernel_rfl), by kernel_rfl, by kernel_rfl⟩
theorem wright : RightP wm [] := ⟨by decide, by kernel_rfl, by simp, of_decide_eq_true (by kernel_rfl), of_decide_eq_true (by kernel_rfl)⟩
theorem wtext : textT wm [] = wx := by kernel_rfl
theorem wshow : TextP wm [] (wx, 0) := .inl ⟨wright, by rw [wtext]; decide, by rw [wtext]⟩
theorem wzero : TextP (.mk 0 0 0 []) [] ([], 170) := .inr (.inr ⟨fun h => absurd h.2.1 (by decide), rfl⟩)
theorem Text_is {w : World} {u : V4} {qa : Option Addr} {n c : Nat} {main : Tm} {qs : List Qu} {o : List UInt8 × Int} (hT : H.Tab w) (hu : u.is w main) (hq : QsAt w qs qa) (hn : n = qs.length) (ho : TextP main qs o) :
    Calls Tryz.prog 6 #[.agg (parr u qa n c)] w (endW (fun v w' => v = .tuple #[.string (bs o.1), .int .i64 o.2] ∧ Chg NoS w w') (fun _ _ => False)) :=
  Calls.then (Text_ok w hT hu hq hn) fun v w' h => by
    obtain ⟨o', h1, h2, h3⟩ := h
    rw [ho.det h1]
    exact ⟨h2, h3⟩
theorem wakes_ok (w : World) (hL : Libs w) : Calls Tryz.prog 8 #[] w (endW (fun v w' => v = .bool true ∧ Chg NoS w w') (fun _ _ => False)) := by
  refine F8_calls ?_
  delta F8
  refine Calls.then (Policy_is (t := wt) hL.1 wpol) ?_
  rintro v w1 ⟨c1, u1, qa1, qc1, rfl, hu1, hq1, _⟩
  refine ⟨_, rfl, _, _, rfl, _, rfl, _, _, rfl, _, rfl, _, _, rfl, _, rfl, _, _, rfl, _, rfl, _, _, rfl, _, _, _, rfl, _, _, rfl, _, _, _, rfl, rfl, _, _, rfl, rfl, ?_⟩
  refine (put4 (w := w1) (vs := [.int .i8 u1.op, .int .i8 u1.f, .int .u64 u1.n, .slice u1.b u1.m u1.c, .slice qa1 0 qc1]) (cs := [.int .i8 0, .int .i8 0, .int .u64 0, .slice none 0 0, .slice none 0 0]) (blk_alloc w1 _) (chg_alloc w1 _ _) (Nat.le_refl _) rfl (by simp [oneC]) fun w2 b2 c2 _ z2 => ?_ : setsW _ _ _ _ _)
  have c02 := c1.trans c2
  refine ⟨_, get_blk b2 0 _ rfl, _, get_blk b2 1 _ rfl, _, get_blk b2 2 _ rfl, _, _, _, get_blk b2 3 _ rfl, _, _, _, get_blk b2 4 _ rfl, ?_⟩
  refine Calls.then (Text_is (qs := []) (hL.chg c02).2 (hu1.keep c2) (hq1.keep c2) rfl wshow) ?_
  rintro v w3 ⟨rfl, c3⟩
  refine ⟨_, rfl, _, _, rfl, _, rfl, _, _, rfl, _, rfl, rfl, ?_⟩
  have c03 := c02.trans c3
  refine Calls.then (Text_is (u := ⟨0, 0, 0, none, 0, 0⟩) (qs := []) (hL.chg c03).2 (by simp [V4.is, TVal, KsAt]) (fun j q hq => by simp at hq) rfl wzero) ?_
  rintro v w4 ⟨rfl, c4⟩
  refine ⟨_, rfl, _, _, rfl, _, rfl, _, _, rfl, _, rfl, rfl, ?_⟩
  refine ⟨.inl rfl, ?_⟩
  rw [if_pos (by rfl), if_pos (by rfl), if_pos (by show (ByteArray.toList (bs wx) == ByteArray.toList (bs wx)) = true; simp)]
  exact ⟨rfl, c03.trans c4⟩
end Go.Proofs.YtpolbdakhfcilaaGreatDoor.B
/-
  Policies: what comes in is a finite one.
-/
set_option maxRecDepth 100000
set_option linter.unusedVariables false
set_option linter.unusedSimpArgs false
namespace Go.Proofs.YtpolbdakhfcilaaGreatDoor.B
open Go Go.Proofs Go.Proofs.YtpolbdakhfcilaaGreatDoorEng

theorem qs_none (w : World) : QsAt w [] none := fun j q h => by simp at h
theorem cells26 : Tryz.prog.cellsOf 26 = 4 := by kernel_rfl
theorem cells22 : Tryz.prog.cellsOf 22 = 1 := by kernel_rfl
theorem cells23 : Tryz.prog.cellsOf 23 = 1 := by kernel_rfl
theorem cells24 : Tryz.prog.cellsOf 24 = 1 := by kernel_rfl
theorem cells27 : Tryz.prog.cellsOf 27 = 1 := by kernel_rfl
theorem cells29 : Tryz.prog.cellsOf 29 = 5 := by kernel_rfl
theorem cells41 : Tryz.prog.cellsOf 41 = 5 := by kernel_rfl
theorem cells9 : Tryz.prog.cellsOf 9 = 1 := by kernel_rfl
theorem wf_i8 {n : Int} (h : (Lit.int .i8 n).wf = true) : -128 ≤ n ∧ n ≤ 127 := by
  simp only [Lit.wf, Bool.and_eq_true, decide_eq_true_eq] at h
  exact ⟨h.1, h.2⟩
theorem wf_u64 {n : Int} (h : (Lit.int .u64 n).wf = true) : 0 ≤ n ∧ n ≤ 18446744073709551615 := by
  simp only [Lit.wf, Bool.and_eq_true, decide_eq_true_eq] at h
  exact ⟨h.1, h.2⟩
variable {H : Type} {enc : TypeId × Value → H} {w : World} {held : Bool}
theorem add_addK (A : Addr) (n : Nat) : A.add n = addK A n := rfl
theorem fld_of {n : Nat} {cs : List Value} {fs : Array Field} {xs : List (DataW H × List MemPlace)} (hxs : xs.length = fs.size)
    (hf : ∀ (i : Nat) (f : Field), fs[i]? = some f → DataW.trod enc Tryz.prog w 0 (fun _ => true) held n f.type ((cs.drop f.offset).take (Tryz.prog.cellsOf f.type)) = xs[i]?) (i T o c : Nat)
    (h : (fs[i]?).map (fun f => (f.type, f.offset)) = some (T, o)) (hc : Tryz.prog.cellsOf T = c) : ∃ y, DataW.trod enc Tryz.prog w 0 (fun _ => true) held n T ((cs.drop o).take c) = some y := by
  obtain ⟨f, h1, h2⟩ := Option.map_eq_some_iff.1 h
  injection h2 with h3 h4
  subst h3 h4 hc
  have h5 : i < xs.length := by rw [hxs]; exact (Array.getElem?_eq_some_iff.1 h1).1
  exact ⟨_, by rw [hf i f h1, List.getElem?_eq_getElem h5]⟩
theorem term_of_trod : ∀ (fuel : Nat) {cs : List Value} {x : DataW H × List MemPlace}, DataW.trod enc Tryz.prog w 0 (fun _ => true) held fuel 26 cs = some x → ∃ (t : Tm) (v : V4), cs = v.cells ∧ v.is w t := by
  intro fuel
  induction fuel using Nat.strongRecOn with
  | _ fuel ih =>
    intro cs x h
    obtain ⟨xs, n, hfu, hx, hl, hxs, hf⟩ := DataW.trod_struct Tryz.underlying26 h
    rw [cells26] at hl
    match cs, hl with
    | [c0, c1, c2, c3], _ =>
      obtain ⟨y0, g0⟩ := fld_of hxs hf 0 22 0 1 rfl cells22
      obtain ⟨y1, g1⟩ := fld_of hxs hf 1 22 1 1 rfl cells22
      obtain ⟨y2, g2⟩ := fld_of hxs hf 2 23 2 1 rfl cells23
      obtain ⟨y3, g3⟩ := fld_of hxs hf 3 24 3 1 rfl cells24
      obtain ⟨o, e0, _, w0⟩ := DataW.trod_int Tryz.underlying22 g0
      obtain ⟨f, e1, _, w1⟩ := DataW.trod_int Tryz.underlying22 g1
      obtain ⟨m, e2, _, w2⟩ := DataW.trod_int Tryz.underlying23 g2
      have e0' : c0 = .int .i8 o := by simpa using e0
      have e1' : c1 = .int .i8 f := by simpa using e1
      have e2' : c2 = .int .u64 m := by simpa using e2
      subst e0' e1' e2'
      have r0 := wf_i8 w0
      have r1 := wf_i8 w1
      have r2 := wf_u64 w2
      rcases DataW.trod_slice Tryz.underlying24 g3 with ⟨h0, _⟩ | ⟨a, len, cap, elems, rest, k, hk, hcs, hx3, _, hl3, hm3, hlen, hel, hsp, _⟩
      · have e3 : c3 = .slice none 0 0 := by simpa using h0
        subst e3
        exact ⟨.mk o f m [], ⟨o, f, m, none, 0, 0⟩, rfl, TVal.of rfl (Nat.le_refl 0) (Nat.zero_le _) ⟨r0.1, r0.2, r1.1, r1.2, r2.1, r2.2⟩ (fun j k hj => by simp at hj)⟩
      · have e3 : c3 = .slice (some a) len cap := by simpa using hcs
        subst e3
        have build : ∀ q, q ≤ len → ∃ ks : List Tm, ks.length = q ∧ ∀ (j : Nat) (k : Tm), ks[j]? = some k → ∃ A, some a = some A ∧ TmP w k (addK A (j * 4)) := by
          intro q
          induction q with
          | zero => exact fun _ => ⟨[], rfl, fun j k hj => by simp at hj⟩
          | succ q ihq =>
            intro hq
            obtain ⟨ks, hkl, hks⟩ := ihq (by omega)
            have h1 := hel q (by omega)
            rw [List.getElem?_eq_getElem (by omega), cells26] at h1
            obtain ⟨es, he, hes⟩ := Option.bind_eq_some_iff.1 h1
            obtain ⟨t, v, rfl, hv⟩ := ih k (by omega) hes
            have hc := (World.cells?_some he).2.2
            refine ⟨ks ++ [t], by simp [hkl], fun j k' hj => ?_⟩
            by_cases hjq : j < q
            · rw [List.getElem?_append_left (by omega)] at hj
              exact hks j k' hj
            · have hjq' : j = q := by
                have := (List.getElem?_eq_some_iff.1 hj).1
                simp at this
                omega
              subst hjq'
              rw [List.getElem?_append_right (by omega), hkl] at hj
              simp at hj
              subst hj
              exact ⟨a, rfl, v.op, v.f, v.n, v.b, v.m, v.c, hc 0 (by omega), hc 1 (by omega), hc 2 (by omega), hc 3 (by omega), hv⟩
        obtain ⟨ks, hkl, hks⟩ := build len (Nat.le_refl _)
        exact ⟨.mk o f m ks, ⟨o, f, m, some a, len, cap⟩, rfl, TVal.of hkl.symm hl3 (by unfold maxLen at hm3; omega) ⟨r0.1, r0.2, r1.1, r1.2, r2.1, r2.2⟩ hks⟩
theorem query_of_trod {fuel : Nat} {cs : List Value} {x : DataW H × List MemPlace} (h : DataW.trod enc Tryz.prog w 0 (fun _ => true) held fuel 41 cs = some x) : ∃ (q : Qu) (v : V4), cs = qcells (q.1, v) ∧ v.is w q.2 := by
  obtain ⟨xs, n, hfu, hx, hl, hxs, hf⟩ := DataW.trod_struct Tryz.underlying41 h
  rw [cells41] at hl
  match cs, hl with
  | [c0, c1, c2, c3, c4], _ =>
    obtain ⟨y0, g0⟩ := fld_of hxs hf 0 9 0 1 rfl cells9
    obtain ⟨y1, g1⟩ := fld_of hxs hf 1 26 1 4 rfl cells26
    obtain ⟨s, e0, _, _⟩ := DataW.trod_string Tryz.underlying9 g0
    obtain ⟨t, v, e1, hv⟩ := term_of_trod n g1
    have e0' : c0 = .string s := by simpa using e0
    have e1' : [c1, c2, c3, c4] = v.cells := by simpa using e1
    subst e0'
    refine ⟨(s, t), v, ?_, hv⟩
    unfold qcells
    rw [e1']
    rfl
/-- what is known of a policy that comes in -/
structure PolIn (w : World) (v : V4) (qa : Option Addr) (qn qc : Nat) (main : Tm) (qs : List Qu) : Prop where
  main : v.is w main
  row : QsAt w qs qa
  len : qn = qs.length
  most : qn ≤ 9223372036854775807
theorem pol_of_trod {fuel : Nat} {cs : List Value} {x : DataW H × List MemPlace} (h : DataW.trod enc Tryz.prog w 0 (fun _ => true) held fuel 29 cs = some x) : ∃ (v : V4) (qa : Option Addr) (qn qc : Nat), cs = (parr v qa qn qc).toList ∧ ∃ main qs, PolIn w v qa qn qc main qs := by
  obtain ⟨xs, n, hfu, hx, hl, hxs, hf⟩ := DataW.trod_struct Tryz.underlying29 h
  rw [cells29] at hl
  match cs, hl with
  | [c0, c1, c2, c3, c4], _ =>
    obtain ⟨y0, g0⟩ := fld_of hxs hf 0 26 0 4 rfl cells26
    obtain ⟨y1, g1⟩ := fld_of hxs hf 1 27 4 1 rfl cells27
    obtain ⟨t, v, e0, hv⟩ := term_of_trod n g0
    have e0' : [c0, c1, c2, c3] = v.cells := by simpa using e0
    injection e0' with a0 e0'
    injection e0' with a1 e0'
    injection e0' with a2 e0'
    injection e0' with a3 e0'
    subst a0 a1 a2 a3
    rcases DataW.trod_slice Tryz.underlying27 g1 with ⟨h0, _⟩ | ⟨a, len, cap, elems, rest, k, hk, hcs, hx3, _, hl3, hm3, hlen, hel, hsp, _⟩
    · have e3 : c4 = .slice none 0 0 := by simpa using h0
      subst e3
      exact ⟨v, none, 0, 0, rfl, t, [], hv, qs_none _, rfl, by omega⟩
    · have e3 : c4 = .slice (some a) len cap := by simpa using hcs
      subst e3
      have build : ∀ q, q ≤ len → ∃ ks : List Qu, ks.length = q ∧ QsAt w ks (some a) := by
        intro q
        induction q with
        | zero => exact fun _ => ⟨[], rfl, fun j k hj => by simp at hj⟩
        | succ q ihq =>
          intro hq
          obtain ⟨ks, hkl, hks⟩ := ihq (by omega)
          have h1 := hel q (by omega)
          rw [List.getElem?_eq_getElem (by omega), cells41] at h1
          obtain ⟨es, he, hes⟩ := Option.bind_eq_some_iff.1 h1
          obtain ⟨qq, u, rfl, hu⟩ := query_of_trod hes
          have hc := (World.cells?_some he).2.2
          refine ⟨ks ++ [qq], by simp [hkl], fun j k' hj => ?_⟩
          by_cases hjq : j < q
          · rw [List.getElem?_append_left (by omega)] at hj
            exact hks j k' hj
          · have hjq' : j = q := by
              have := (List.getElem?_eq_some_iff.1 hj).1
              simp at this
              omega
            subst hjq'
            rw [List.getElem?_append_right (by omega), hkl] at hj
            simp at hj
            subst hj
            refine ⟨a, rfl, hc 0 (by omega), u.op, u.f, u.n, u.b, u.m, u.c, ?_, ?_, ?_, ?_, hu⟩
            · rw [addK_addK (addK a (j * 5))]; exact hc 1 (by omega)
            · rw [addK_addK (addK a (j * 5))]; exact hc 2 (by omega)
            · rw [addK_addK (addK a (j * 5))]; exact hc 3 (by omega)
            · rw [addK_addK (addK a (j * 5))]; exact hc 4 (by omega)
      obtain ⟨ks, hkl, hks⟩ := build len (Nat.le_refl _)
      exact ⟨v, some a, len, cap, rfl, t, ks, hv, hks, hkl.symm, by unfold maxLen at hm3; omega⟩
end Go.Proofs.YtpolbdakhfcilaaGreatDoor.B

/-
  show: what the laid variables hold.
-/
set_option maxRecDepth 100000
set_option linter.unusedVariables false
namespace Go.Proofs.YtpolbdakhfcilaaGreatDoor.B
open Go Go.Proofs Go.Proofs.YtpolbdakhfcilaaGreatDoorEng Go.RowKit Go.ChangeShapes Go.WideShapes
theorem gP : Tryz.prog.globalNamed "internal/strconv.uint64pow10" = some 1 := by kernel_rfl
theorem tP : (Tryz.prog.globals[1]?).map (·.type) = some 144 := by kernel_rfl
theorem cP : Tryz.prog.cellsOf 144 = 20 := by kernel_rfl
theorem c23 : Tryz.prog.cellsOf 23 = 1 := by kernel_rfl
theorem gSy : Tryz.prog.globalNamed "strconv.ErrSyntax" = some 2 := by kernel_rfl
theorem gRa : Tryz.prog.globalNamed "strconv.ErrRange" = some 3 := by kernel_rfl
theorem tSy : (Tryz.prog.globals[2]?).map (·.type) = some 36 := by kernel_rfl
theorem tRa : (Tryz.prog.globals[3]?).map (·.type) = some 36 := by kernel_rfl
def tens : List Int := [1, 10, 100, 1000, 10000, 100000, 1000000, 10000000, 100000000, 1000000000, 10000000000, 100000000000, 1000000000000, 10000000000000, 100000000000000, 1000000000000000, 10000000000000000, 100000000000000000, 1000000000000000000, 10000000000000000000]
theorem tens_at : ∀ i, i < 20 → tens.getD i 0 = ((10 ^ i : Nat) : Int) := by decide
theorem of_laid {W : World} (h : laidMetH Tryz.prog [("math/bits.deBruijn32tab", Rows.laid_math_bits_deBruijn32tab), ("math/bits.deBruijn64tab", Rows.laid_math_bits_deBruijn64tab), ("internal/strconv.uint64pow10", Rows.laid_internal_strconv_uint64pow10), ("strconv.ErrRange", Rows.laid_strconv_ErrRange), ("strconv.ErrSyntax", Rows.laid_strconv_ErrSyntax)] W) : Libs W := by
  rw [MakeChecks.laidMetH_plain _ _ _ (by kernel_rfl)] at h
  obtain ⟨ps, ⟨g0, t0, cs0, f0, p0, q0, hg0, ht0, hv0, hd0, ⟨g1, t1, cs1, f1, p1, q1, hg1, ht1, hv1, hd1, ⟨g2, t2, cs2, f2, p2, q2, hg2, ht2, hv2, hd2, ⟨g3, t3, cs3, f3, p3, q3, hg3, ht3, hv3, hd3, ⟨g4, t4, cs4, f4, p4, q4, hg4, ht4, hv4, hd4, _, _⟩, _⟩, _⟩, _⟩, _⟩, _, _⟩ := h
  obtain rfl := Option.some.inj (gP.symm.trans hg2)
  obtain rfl := Option.some.inj (tP.symm.trans ht2)
  have he : cs2.toList = tens.map fun z => Value.int .u64 z := Lib.cells_of_tab (k := .u64) (zs := tens) Tryz.underlying144 Tryz.underlying23 c23 cP hd2
  have hT : Lib.TabIs Tryz.prog W "internal/strconv.uint64pow10" .u64 tens := by
    unfold Lib.TabIs
    rw [hv2, ← he]
  obtain rfl := Option.some.inj (gRa.symm.trans hg3)
  obtain rfl := Option.some.inj (tRa.symm.trans ht3)
  obtain rfl := Option.some.inj (gSy.symm.trans hg4)
  obtain rfl := Option.some.inj (tSy.symm.trans ht4)
  have one : ∀ (g : Nat) (n : String) (cs : Array Value) (fuel : Nat) (nm : String) (d : DataW Unit) (p : List MemPlace), Tryz.prog.globalNamed n = some g → W.var? Tryz.prog n = some cs → DataW.trod (fun _ => ()) Tryz.prog W 0 (fun _ => true) false fuel 36 cs.toList = some (.iface nm d, p) → ∃ t z, W.cell? ⟨g, 0, none⟩ = some (.iface t z) := fun g n cs fuel nm d p hgn hv htr => by
    have := iface_of_trod Tryz.underlying36 htr
    obtain ⟨_, u, v, hcs, _⟩ := this
    refine ⟨u, v, ?_⟩
    have h0 := World.var?_cell hgn hv 0
    rw [h0, Array.eq_one_of_toList hcs]
    rfl
  refine ⟨⟨one 2 _ _ _ _ _ _ gSy hv4 hd4, one 3 _ _ _ _ _ _ gRa hv3 hd3⟩, fun i hi => ?_⟩
  have := hT.cell gP i (by show i < 20; exact hi)
  rw [tens_at i hi] at this
  exact this
end Go.Proofs.YtpolbdakhfcilaaGreatDoor.B
