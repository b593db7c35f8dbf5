/-
  Policies: what comes in is a finite one.
-/
import Derived.Test.YtbpckcmejkcciaaPolU
import Derived.Test.YtbpckcmejkcciaaEngO
set_option linter.unusedVariables false
set_option linter.unusedSimpArgs false
namespace Go.Proofs.Ytbpckcmejkcciaa.B
open Go Go.Proofs Go.Proofs.YtbpckcmejkcciaaEng

theorem cells26 : Try.prog.cellsOf 26 = 4 := by kernel_rfl
theorem cells22 : Try.prog.cellsOf 22 = 1 := by kernel_rfl
theorem cells23 : Try.prog.cellsOf 23 = 1 := by kernel_rfl
theorem cells24 : Try.prog.cellsOf 24 = 1 := by kernel_rfl
theorem cells27 : Try.prog.cellsOf 27 = 1 := by kernel_rfl
theorem cells29 : Try.prog.cellsOf 29 = 5 := by kernel_rfl
theorem cells40 : Try.prog.cellsOf 40 = 5 := by kernel_rfl
theorem cells9 : Try.prog.cellsOf 9 = 1 := by kernel_rfl
theorem wf_i8 {n : Int} (h : (Lit.int .i8 n).wf = true) : -128 ≤ n ∧ n ≤ 127 := by
  simp only [Lit.wf, Bool.and_eq_true, decide_eq_true_eq] at h
  exact ⟨h.1, h.2⟩
theorem wf_u64 {n : Int} (h : (Lit.int .u64 n).wf = true) : 0 ≤ n ∧ n ≤ 18446744073709551615 := by
  simp only [Lit.wf, Bool.and_eq_true, decide_eq_true_eq] at h
  exact ⟨h.1, h.2⟩
variable {H : Type} {enc : TypeId × Value → H} {w : World} {held : Bool}
theorem add_addK (A : Addr) (n : Nat) : A.add n = addK A n := rfl
theorem fld_of {n : Nat} {cs : List Value} {fs : Array Field} {xs : List (DataW H × List MemPlace)} (hxs : xs.length = fs.size)
    (hf : ∀ (i : Nat) (f : Field), fs[i]? = some f → DataW.trod enc Try.prog w 0 (fun _ => true) held n f.type ((cs.drop f.offset).take (Try.prog.cellsOf f.type)) = xs[i]?) (i T o c : Nat)
    (h : (fs[i]?).map (fun f => (f.type, f.offset)) = some (T, o)) (hc : Try.prog.cellsOf T = c) : ∃ y, DataW.trod enc Try.prog w 0 (fun _ => true) held n T ((cs.drop o).take c) = some y := by
  obtain ⟨f, h1, h2⟩ := Option.map_eq_some_iff.1 h
  injection h2 with h3 h4
  subst h3 h4 hc
  have h5 : i < xs.length := by rw [hxs]; exact (Array.getElem?_eq_some_iff.1 h1).1
  exact ⟨_, by rw [hf i f h1, List.getElem?_eq_getElem h5]⟩
theorem term_of_trod : ∀ (fuel : Nat) {cs : List Value} {x : DataW H × List MemPlace}, DataW.trod enc Try.prog w 0 (fun _ => true) held fuel 26 cs = some x → ∃ (t : Tm) (v : V4), cs = v.cells ∧ v.is w t := by
  intro fuel
  induction fuel using Nat.strongRecOn with
  | _ fuel ih =>
    intro cs x h
    obtain ⟨xs, n, hfu, hx, hl, hxs, hf⟩ := DataW.trod_struct Try.underlying26 h
    rw [cells26] at hl
    match cs, hl with
    | [c0, c1, c2, c3], _ =>
      obtain ⟨y0, g0⟩ := fld_of hxs hf 0 22 0 1 rfl cells22
      obtain ⟨y1, g1⟩ := fld_of hxs hf 1 22 1 1 rfl cells22
      obtain ⟨y2, g2⟩ := fld_of hxs hf 2 23 2 1 rfl cells23
      obtain ⟨y3, g3⟩ := fld_of hxs hf 3 24 3 1 rfl cells24
      obtain ⟨o, e0, _, w0⟩ := DataW.trod_int Try.underlying22 g0
      obtain ⟨f, e1, _, w1⟩ := DataW.trod_int Try.underlying22 g1
      obtain ⟨m, e2, _, w2⟩ := DataW.trod_int Try.underlying23 g2
      have e0' : c0 = .int .i8 o := by simpa using e0
      have e1' : c1 = .int .i8 f := by simpa using e1
      have e2' : c2 = .int .u64 m := by simpa using e2
      subst e0' e1' e2'
      have r0 := wf_i8 w0
      have r1 := wf_i8 w1
      have r2 := wf_u64 w2
      rcases DataW.trod_slice Try.underlying24 g3 with ⟨h0, _⟩ | ⟨a, len, cap, elems, rest, k, hk, hcs, hx3, _, hl3, hm3, hlen, hel, hsp, _⟩
      · have e3 : c3 = .slice none 0 0 := by simpa using h0
        subst e3
        exact ⟨.mk o f m [], ⟨o, f, m, none, 0, 0⟩, rfl, TVal.of rfl (Nat.le_refl 0) (Nat.zero_le _) ⟨r0.1, r0.2, r1.1, r1.2, r2.1, r2.2⟩ (fun j k hj => by simp at hj)⟩
      · have e3 : c3 = .slice (some a) len cap := by simpa using hcs
        subst e3
        have build : ∀ q, q ≤ len → ∃ ks : List Tm, ks.length = q ∧ ∀ (j : Nat) (k : Tm), ks[j]? = some k → ∃ A, some a = some A ∧ TmP w k (addK A (j * 4)) := by
          intro q
          induction q with
          | zero => exact fun _ => ⟨[], rfl, fun j k hj => by simp at hj⟩
          | succ q ihq =>
            intro hq
            obtain ⟨ks, hkl, hks⟩ := ihq (by omega)
            have h1 := hel q (by omega)
            rw [List.getElem?_eq_getElem (by omega), cells26] at h1
            obtain ⟨es, he, hes⟩ := Option.bind_eq_some_iff.1 h1
            obtain ⟨t, v, rfl, hv⟩ := ih k (by omega) hes
            have hc := (World.cells?_some he).2.2
            refine ⟨ks ++ [t], by simp [hkl], fun j k' hj => ?_⟩
            by_cases hjq : j < q
            · rw [List.getElem?_append_left (by omega)] at hj
              exact hks j k' hj
            · have hjq' : j = q := by
                have := (List.getElem?_eq_some_iff.1 hj).1
                simp at this
                omega
              subst hjq'
              rw [List.getElem?_append_right (by omega), hkl] at hj
              simp at hj
              subst hj
              exact ⟨a, rfl, v.op, v.f, v.n, v.b, v.m, v.c, hc 0 (by omega), hc 1 (by omega), hc 2 (by omega), hc 3 (by omega), hv⟩
        obtain ⟨ks, hkl, hks⟩ := build len (Nat.le_refl _)
        exact ⟨.mk o f m ks, ⟨o, f, m, some a, len, cap⟩, rfl, TVal.of hkl.symm hl3 (by unfold maxLen at hm3; omega) ⟨r0.1, r0.2, r1.1, r1.2, r2.1, r2.2⟩ hks⟩
theorem query_of_trod {fuel : Nat} {cs : List Value} {x : DataW H × List MemPlace} (h : DataW.trod enc Try.prog w 0 (fun _ => true) held fuel 40 cs = some x) : ∃ (q : Qu) (v : V4), cs = qcells (q.1, v) ∧ v.is w q.2 := by
  obtain ⟨xs, n, hfu, hx, hl, hxs, hf⟩ := DataW.trod_struct Try.underlying40 h
  rw [cells40] at hl
  match cs, hl with
  | [c0, c1, c2, c3, c4], _ =>
    obtain ⟨y0, g0⟩ := fld_of hxs hf 0 9 0 1 rfl cells9
    obtain ⟨y1, g1⟩ := fld_of hxs hf 1 26 1 4 rfl cells26
    obtain ⟨s, e0, _, _⟩ := DataW.trod_string Try.underlying9 g0
    obtain ⟨t, v, e1, hv⟩ := term_of_trod n g1
    have e0' : c0 = .string s := by simpa using e0
    have e1' : [c1, c2, c3, c4] = v.cells := by simpa using e1
    subst e0'
    refine ⟨(s, t), v, ?_, hv⟩
    unfold qcells
    rw [e1']
    rfl
/-- what is known of a policy that comes in -/
structure PolIn (w : World) (v : V4) (qa : Option Addr) (qn qc : Nat) (main : Tm) (qs : List Qu) : Prop where
  main : v.is w main
  row : QsAt w qs qa
  len : qn = qs.length
  most : qn ≤ 9223372036854775807
theorem pol_of_trod {fuel : Nat} {cs : List Value} {x : DataW H × List MemPlace} (h : DataW.trod enc Try.prog w 0 (fun _ => true) held fuel 29 cs = some x) : ∃ (v : V4) (qa : Option Addr) (qn qc : Nat), cs = (parr v qa qn qc).toList ∧ ∃ main qs, PolIn w v qa qn qc main qs := by
  obtain ⟨xs, n, hfu, hx, hl, hxs, hf⟩ := DataW.trod_struct Try.underlying29 h
  rw [cells29] at hl
  match cs, hl with
  | [c0, c1, c2, c3, c4], _ =>
    obtain ⟨y0, g0⟩ := fld_of hxs hf 0 26 0 4 rfl cells26
    obtain ⟨y1, g1⟩ := fld_of hxs hf 1 27 4 1 rfl cells27
    obtain ⟨t, v, e0, hv⟩ := term_of_trod n g0
    have e0' : [c0, c1, c2, c3] = v.cells := by simpa using e0
    injection e0' with a0 e0'
    injection e0' with a1 e0'
    injection e0' with a2 e0'
    injection e0' with a3 e0'
    subst a0 a1 a2 a3
    rcases DataW.trod_slice Try.underlying27 g1 with ⟨h0, _⟩ | ⟨a, len, cap, elems, rest, k, hk, hcs, hx3, _, hl3, hm3, hlen, hel, hsp, _⟩
    · have e3 : c4 = .slice none 0 0 := by simpa using h0
      subst e3
      exact ⟨v, none, 0, 0, rfl, t, [], hv, qs_none _, rfl, by omega⟩
    · have e3 : c4 = .slice (some a) len cap := by simpa using hcs
      subst e3
      have build : ∀ q, q ≤ len → ∃ ks : List Qu, ks.length = q ∧ QsAt w ks (some a) := by
        intro q
        induction q with
        | zero => exact fun _ => ⟨[], rfl, fun j k hj => by simp at hj⟩
        | succ q ihq =>
          intro hq
          obtain ⟨ks, hkl, hks⟩ := ihq (by omega)
          have h1 := hel q (by omega)
          rw [List.getElem?_eq_getElem (by omega), cells40] at h1
          obtain ⟨es, he, hes⟩ := Option.bind_eq_some_iff.1 h1
          obtain ⟨qq, u, rfl, hu⟩ := query_of_trod hes
          have hc := (World.cells?_some he).2.2
          refine ⟨ks ++ [qq], by simp [hkl], fun j k' hj => ?_⟩
          by_cases hjq : j < q
          · rw [List.getElem?_append_left (by omega)] at hj
            exact hks j k' hj
          · have hjq' : j = q := by
              have := (List.getElem?_eq_some_iff.1 hj).1
              simp at this
              omega
            subst hjq'
            rw [List.getElem?_append_right (by omega), hkl] at hj
            simp at hj
            subst hj
            refine ⟨a, rfl, hc 0 (by omega), u.op, u.f, u.n, u.b, u.m, u.c, ?_, ?_, ?_, ?_, hu⟩
            · rw [addK_addK (addK a (j * 5))]; exact hc 1 (by omega)
            · rw [addK_addK (addK a (j * 5))]; exact hc 2 (by omega)
            · rw [addK_addK (addK a (j * 5))]; exact hc 3 (by omega)
            · rw [addK_addK (addK a (j * 5))]; exact hc 4 (by omega)
      obtain ⟨ks, hkl, hks⟩ := build len (Nat.le_refl _)
      exact ⟨v, some a, len, cap, rfl, t, ks, hv, hks, hkl.symm, by unfold maxLen at hm3; omega⟩
end Go.Proofs.Ytbpckcmejkcciaa.B
