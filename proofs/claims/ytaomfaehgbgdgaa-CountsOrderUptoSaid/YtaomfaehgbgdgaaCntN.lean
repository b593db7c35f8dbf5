/-
  Counts: what comes in, cell by cell.
-/
import Derived.Test.YtaomfaehgbgdgaaCntM
import Derived.Test.YtaomfaehgbgdgaaEngT
set_option maxRecDepth 100000
set_option linter.unusedVariables false
set_option linter.unusedSimpArgs false
namespace Go.Proofs.Ytaomfaehgbgdgaa.B
open Go Go.Proofs Go.Proofs.YtaomfaehgbgdgaaEng

theorem shape26 {B n : Nat} {w : World} {cs : List Value} (h : Is B Try.prog w (n + 2) 26 cs) : ∃ (x0 : Int) (x1 : Int) (a2 : Option Addr) (n2 c2 : Nat) (x3 : Int) (a4 : Option Addr) (n4 c4 : Nat) (s5 : ByteArray), cs = [.int .i64 x0, .int .i64 x1, .slice a2 n2 c2, .int .u16 x3, .slice a4 n4 c4, .string s5] ∧ (-9223372036854775808 ≤ x0 ∧ x0 ≤ 9223372036854775807) ∧ (-9223372036854775808 ≤ x1 ∧ x1 ≤ 9223372036854775807) ∧ Is B Try.prog w (n + 1) 22 [.slice a2 n2 c2] ∧ (0 ≤ x3 ∧ x3 ≤ 65535) ∧ Is B Try.prog w (n + 1) 24 [.slice a4 n4 c4] ∧ s5.size ≤ B := by
  have hl : cs.length = 6 := (is_len h (by kernel_rfl) (c := 6) (by kernel_rfl))
  have h0 := is_top h hl
  have g1 := is_field h0 Try.underlying26 (i := 0) (T := 3) (oo := 0) (c2 := 1) (by kernel_rfl) (by kernel_rfl) (by decide)
  have g2 := is_field h0 Try.underlying26 (i := 1) (T := 3) (oo := 1) (c2 := 1) (by kernel_rfl) (by kernel_rfl) (by decide)
  have g3 := is_field h0 Try.underlying26 (i := 2) (T := 22) (oo := 2) (c2 := 1) (by kernel_rfl) (by kernel_rfl) (by decide)
  have g4 := is_field h0 Try.underlying26 (i := 3) (T := 23) (oo := 3) (c2 := 1) (by kernel_rfl) (by kernel_rfl) (by decide)
  have g5 := is_field h0 Try.underlying26 (i := 4) (T := 24) (oo := 4) (c2 := 1) (by kernel_rfl) (by kernel_rfl) (by decide)
  have g6 := is_field h0 Try.underlying26 (i := 5) (T := 9) (oo := 5) (c2 := 1) (by kernel_rfl) (by kernel_rfl) (by decide)
  obtain ⟨x0, e0, f0⟩ := is_int (k := .i64) g1 Try.underlying3
  have r0 : -9223372036854775808 ≤ x0 ∧ x0 ≤ 9223372036854775807 := wf_i64 f0
  obtain ⟨x1, e1, f1⟩ := is_int (k := .i64) g2 Try.underlying3
  have r1 : -9223372036854775808 ≤ x1 ∧ x1 ≤ 9223372036854775807 := wf_i64 f1
  obtain ⟨a2, n2, c2, e2, r2⟩ := is_slice g3 Try.underlying22
  obtain ⟨x3, e3, f3⟩ := is_int (k := .u16) g4 Try.underlying23
  have r3 : 0 ≤ x3 ∧ x3 ≤ 65535 := wf_u16 f3
  obtain ⟨a4, n4, c4, e4, r4⟩ := is_slice g5 Try.underlying24
  obtain ⟨s5, e5, r5⟩ := is_str g6 Try.underlying9
  refine ⟨x0, x1, a2, n2, c2, x3, a4, n4, c4, s5, list_of hl (by
    intro i hi
    match i, hi with
    | 0, _ => exact e0
    | 1, _ => exact e1
    | 2, _ => exact e2
    | 3, _ => exact e3
    | 4, _ => exact e4
    | 5, _ => exact e5
    | i + 6, hi => simp at hi; omega), r0, r1, r2, r3, r4, r5⟩

theorem shape82 {B n : Nat} {w : World} {cs : List Value} (h : Is B Try.prog w (n + 5) 82 cs) : ∃ (x0 : Int) (x1 : Int) (x2 : Int) (x3 : Int) (x4 : Int) (x5 : Int) (x6 : Int) (x7 : Int) (x8 : Int) (x9 : Int) (x10 : Int) (x11 : Int) (x12 : Int) (x13 : Int) (x14 : Int) (x15 : Int) (x16 : Int) (x17 : Int) (x18 : Int) (x19 : Int) (x20 : Int) (x21 : Int) (x22 : Int) (a23 : Option Addr) (n23 c23 : Nat) (x24 : Int) (x25 : Int) (x26 : Int), cs = [.int .i64 x0, .int .u64 x1, .int .u64 x2, .int .u64 x3, .int .u64 x4, .int .u64 x5, .int .u64 x6, .int .u64 x7, .int .u64 x8, .int .u64 x9, .int .u64 x10, .int .u64 x11, .int .u64 x12, .int .u64 x13, .int .u64 x14, .int .u64 x15, .int .u64 x16, .int .u64 x17, .int .u64 x18, .int .u64 x19, .int .u64 x20, .int .u64 x21, .int .u64 x22, .slice a23 n23 c23, .int .u64 x24, .int .u64 x25, .int .u64 x26] ∧ (-9223372036854775808 ≤ x0 ∧ x0 ≤ 9223372036854775807) ∧ (0 ≤ x1 ∧ x1 ≤ 18446744073709551615) ∧ (0 ≤ x2 ∧ x2 ≤ 18446744073709551615) ∧ (0 ≤ x3 ∧ x3 ≤ 18446744073709551615) ∧ (0 ≤ x4 ∧ x4 ≤ 18446744073709551615) ∧ (0 ≤ x5 ∧ x5 ≤ 18446744073709551615) ∧ (0 ≤ x6 ∧ x6 ≤ 18446744073709551615) ∧ (0 ≤ x7 ∧ x7 ≤ 18446744073709551615) ∧ (0 ≤ x8 ∧ x8 ≤ 18446744073709551615) ∧ (0 ≤ x9 ∧ x9 ≤ 18446744073709551615) ∧ (0 ≤ x10 ∧ x10 ≤ 18446744073709551615) ∧ (0 ≤ x11 ∧ x11 ≤ 18446744073709551615) ∧ (0 ≤ x12 ∧ x12 ≤ 18446744073709551615) ∧ (0 ≤ x13 ∧ x13 ≤ 18446744073709551615) ∧ (0 ≤ x14 ∧ x14 ≤ 18446744073709551615) ∧ (0 ≤ x15 ∧ x15 ≤ 18446744073709551615) ∧ (0 ≤ x16 ∧ x16 ≤ 18446744073709551615) ∧ (0 ≤ x17 ∧ x17 ≤ 18446744073709551615) ∧ (0 ≤ x18 ∧ x18 ≤ 18446744073709551615) ∧ (0 ≤ x19 ∧ x19 ≤ 18446744073709551615) ∧ (0 ≤ x20 ∧ x20 ≤ 18446744073709551615) ∧ (0 ≤ x21 ∧ x21 ≤ 18446744073709551615) ∧ (0 ≤ x22 ∧ x22 ≤ 18446744073709551615) ∧ Is B Try.prog w (n + 3) 76 [.slice a23 n23 c23] ∧ (0 ≤ x24 ∧ x24 ≤ 18446744073709551615) ∧ (0 ≤ x25 ∧ x25 ≤ 18446744073709551615) ∧ (0 ≤ x26 ∧ x26 ≤ 18446744073709551615) := by
  have hl : cs.length = 27 := (is_len h (by kernel_rfl) (c := 27) (by kernel_rfl))
  have h0 := is_top h hl
  have g1 := is_field h0 Try.underlying82 (i := 0) (T := 78) (oo := 0) (c2 := 25) (by kernel_rfl) (by kernel_rfl) (by decide)
  have g2 := is_field g1 Try.underlying78 (i := 0) (T := 3) (oo := 0) (c2 := 1) (by kernel_rfl) (by kernel_rfl) (by decide)
  have g3 := is_field g1 Try.underlying78 (i := 1) (T := 75) (oo := 1) (c2 := 22) (by kernel_rfl) (by kernel_rfl) (by decide)
  have g4 := is_field g3 Try.underlying75 (i := 0) (T := 73) (oo := 0) (c2 := 11) (by kernel_rfl) (by kernel_rfl) (by decide)
  have g5 := is_elem g4 Try.underlying73 (i := 0) (c2 := 1) (by decide) (by kernel_rfl) (by decide)
  have g6 := is_elem g4 Try.underlying73 (i := 1) (c2 := 1) (by decide) (by kernel_rfl) (by decide)
  have g7 := is_elem g4 Try.underlying73 (i := 2) (c2 := 1) (by decide) (by kernel_rfl) (by decide)
  have g8 := is_elem g4 Try.underlying73 (i := 3) (c2 := 1) (by decide) (by kernel_rfl) (by decide)
  have g9 := is_elem g4 Try.underlying73 (i := 4) (c2 := 1) (by decide) (by kernel_rfl) (by decide)
  have g10 := is_elem g4 Try.underlying73 (i := 5) (c2 := 1) (by decide) (by kernel_rfl) (by decide)
  have g11 := is_elem g4 Try.underlying73 (i := 6) (c2 := 1) (by decide) (by kernel_rfl) (by decide)
  have g12 := is_elem g4 Try.underlying73 (i := 7) (c2 := 1) (by decide) (by kernel_rfl) (by decide)
  have g13 := is_elem g4 Try.underlying73 (i := 8) (c2 := 1) (by decide) (by kernel_rfl) (by decide)
  have g14 := is_elem g4 Try.underlying73 (i := 9) (c2 := 1) (by decide) (by kernel_rfl) (by decide)
  have g15 := is_elem g4 Try.underlying73 (i := 10) (c2 := 1) (by decide) (by kernel_rfl) (by decide)
  have g16 := is_field g3 Try.underlying75 (i := 1) (T := 73) (oo := 11) (c2 := 11) (by kernel_rfl) (by kernel_rfl) (by decide)
  have g17 := is_elem g16 Try.underlying73 (i := 0) (c2 := 1) (by decide) (by kernel_rfl) (by decide)
  have g18 := is_elem g16 Try.underlying73 (i := 1) (c2 := 1) (by decide) (by kernel_rfl) (by decide)
  have g19 := is_elem g16 Try.underlying73 (i := 2) (c2 := 1) (by decide) (by kernel_rfl) (by decide)
  have g20 := is_elem g16 Try.underlying73 (i := 3) (c2 := 1) (by decide) (by kernel_rfl) (by decide)
  have g21 := is_elem g16 Try.underlying73 (i := 4) (c2 := 1) (by decide) (by kernel_rfl) (by decide)
  have g22 := is_elem g16 Try.underlying73 (i := 5) (c2 := 1) (by decide) (by kernel_rfl) (by decide)
  have g23 := is_elem g16 Try.underlying73 (i := 6) (c2 := 1) (by decide) (by kernel_rfl) (by decide)
  have g24 := is_elem g16 Try.underlying73 (i := 7) (c2 := 1) (by decide) (by kernel_rfl) (by decide)
  have g25 := is_elem g16 Try.underlying73 (i := 8) (c2 := 1) (by decide) (by kernel_rfl) (by decide)
  have g26 := is_elem g16 Try.underlying73 (i := 9) (c2 := 1) (by decide) (by kernel_rfl) (by decide)
  have g27 := is_elem g16 Try.underlying73 (i := 10) (c2 := 1) (by decide) (by kernel_rfl) (by decide)
  have g28 := is_field g1 Try.underlying78 (i := 2) (T := 76) (oo := 23) (c2 := 1) (by kernel_rfl) (by kernel_rfl) (by decide)
  have g29 := is_field g1 Try.underlying78 (i := 3) (T := 33) (oo := 24) (c2 := 1) (by kernel_rfl) (by kernel_rfl) (by decide)
  have g30 := is_field h0 Try.underlying82 (i := 1) (T := 80) (oo := 25) (c2 := 2) (by kernel_rfl) (by kernel_rfl) (by decide)
  have g31 := is_field g30 Try.underlying80 (i := 0) (T := 33) (oo := 0) (c2 := 1) (by kernel_rfl) (by kernel_rfl) (by decide)
  have g32 := is_field g30 Try.underlying80 (i := 1) (T := 33) (oo := 1) (c2 := 1) (by kernel_rfl) (by kernel_rfl) (by decide)
  obtain ⟨x0, e0, f0⟩ := is_int (k := .i64) g2 Try.underlying3
  have r0 : -9223372036854775808 ≤ x0 ∧ x0 ≤ 9223372036854775807 := wf_i64 f0
  obtain ⟨x1, e1, f1⟩ := is_int (k := .u64) g5 Try.underlying33
  have r1 : 0 ≤ x1 ∧ x1 ≤ 18446744073709551615 := wf_u64 f1
  obtain ⟨x2, e2, f2⟩ := is_int (k := .u64) g6 Try.underlying33
  have r2 : 0 ≤ x2 ∧ x2 ≤ 18446744073709551615 := wf_u64 f2
  obtain ⟨x3, e3, f3⟩ := is_int (k := .u64) g7 Try.underlying33
  have r3 : 0 ≤ x3 ∧ x3 ≤ 18446744073709551615 := wf_u64 f3
  obtain ⟨x4, e4, f4⟩ := is_int (k := .u64) g8 Try.underlying33
  have r4 : 0 ≤ x4 ∧ x4 ≤ 18446744073709551615 := wf_u64 f4
  obtain ⟨x5, e5, f5⟩ := is_int (k := .u64) g9 Try.underlying33
  have r5 : 0 ≤ x5 ∧ x5 ≤ 18446744073709551615 := wf_u64 f5
  obtain ⟨x6, e6, f6⟩ := is_int (k := .u64) g10 Try.underlying33
  have r6 : 0 ≤ x6 ∧ x6 ≤ 18446744073709551615 := wf_u64 f6
  obtain ⟨x7, e7, f7⟩ := is_int (k := .u64) g11 Try.underlying33
  have r7 : 0 ≤ x7 ∧ x7 ≤ 18446744073709551615 := wf_u64 f7
  obtain ⟨x8, e8, f8⟩ := is_int (k := .u64) g12 Try.underlying33
  have r8 : 0 ≤ x8 ∧ x8 ≤ 18446744073709551615 := wf_u64 f8
  obtain ⟨x9, e9, f9⟩ := is_int (k := .u64) g13 Try.underlying33
  have r9 : 0 ≤ x9 ∧ x9 ≤ 18446744073709551615 := wf_u64 f9
  obtain ⟨x10, e10, f10⟩ := is_int (k := .u64) g14 Try.underlying33
  have r10 : 0 ≤ x10 ∧ x10 ≤ 18446744073709551615 := wf_u64 f10
  obtain ⟨x11, e11, f11⟩ := is_int (k := .u64) g15 Try.underlying33
  have r11 : 0 ≤ x11 ∧ x11 ≤ 18446744073709551615 := wf_u64 f11
  obtain ⟨x12, e12, f12⟩ := is_int (k := .u64) g17 Try.underlying33
  have r12 : 0 ≤ x12 ∧ x12 ≤ 18446744073709551615 := wf_u64 f12
  obtain ⟨x13, e13, f13⟩ := is_int (k := .u64) g18 Try.underlying33
  have r13 : 0 ≤ x13 ∧ x13 ≤ 18446744073709551615 := wf_u64 f13
  obtain ⟨x14, e14, f14⟩ := is_int (k := .u64) g19 Try.underlying33
  have r14 : 0 ≤ x14 ∧ x14 ≤ 18446744073709551615 := wf_u64 f14
  obtain ⟨x15, e15, f15⟩ := is_int (k := .u64) g20 Try.underlying33
  have r15 : 0 ≤ x15 ∧ x15 ≤ 18446744073709551615 := wf_u64 f15
  obtain ⟨x16, e16, f16⟩ := is_int (k := .u64) g21 Try.underlying33
  have r16 : 0 ≤ x16 ∧ x16 ≤ 18446744073709551615 := wf_u64 f16
  obtain ⟨x17, e17, f17⟩ := is_int (k := .u64) g22 Try.underlying33
  have r17 : 0 ≤ x17 ∧ x17 ≤ 18446744073709551615 := wf_u64 f17
  obtain ⟨x18, e18, f18⟩ := is_int (k := .u64) g23 Try.underlying33
  have r18 : 0 ≤ x18 ∧ x18 ≤ 18446744073709551615 := wf_u64 f18
  obtain ⟨x19, e19, f19⟩ := is_int (k := .u64) g24 Try.underlying33
  have r19 : 0 ≤ x19 ∧ x19 ≤ 18446744073709551615 := wf_u64 f19
  obtain ⟨x20, e20, f20⟩ := is_int (k := .u64) g25 Try.underlying33
  have r20 : 0 ≤ x20 ∧ x20 ≤ 18446744073709551615 := wf_u64 f20
  obtain ⟨x21, e21, f21⟩ := is_int (k := .u64) g26 Try.underlying33
  have r21 : 0 ≤ x21 ∧ x21 ≤ 18446744073709551615 := wf_u64 f21
  obtain ⟨x22, e22, f22⟩ := is_int (k := .u64) g27 Try.underlying33
  have r22 : 0 ≤ x22 ∧ x22 ≤ 18446744073709551615 := wf_u64 f22
  obtain ⟨a23, n23, c23, e23, r23⟩ := is_slice g28 Try.underlying76
  obtain ⟨x24, e24, f24⟩ := is_int (k := .u64) g29 Try.underlying33
  have r24 : 0 ≤ x24 ∧ x24 ≤ 18446744073709551615 := wf_u64 f24
  obtain ⟨x25, e25, f25⟩ := is_int (k := .u64) g31 Try.underlying33
  have r25 : 0 ≤ x25 ∧ x25 ≤ 18446744073709551615 := wf_u64 f25
  obtain ⟨x26, e26, f26⟩ := is_int (k := .u64) g32 Try.underlying33
  have r26 : 0 ≤ x26 ∧ x26 ≤ 18446744073709551615 := wf_u64 f26
  refine ⟨x0, x1, x2, x3, x4, x5, x6, x7, x8, x9, x10, x11, x12, x13, x14, x15, x16, x17, x18, x19, x20, x21, x22, a23, n23, c23, x24, x25, x26, list_of hl (by
    intro i hi
    match i, hi with
    | 0, _ => exact e0
    | 1, _ => exact e1
    | 2, _ => exact e2
    | 3, _ => exact e3
    | 4, _ => exact e4
    | 5, _ => exact e5
    | 6, _ => exact e6
    | 7, _ => exact e7
    | 8, _ => exact e8
    | 9, _ => exact e9
    | 10, _ => exact e10
    | 11, _ => exact e11
    | 12, _ => exact e12
    | 13, _ => exact e13
    | 14, _ => exact e14
    | 15, _ => exact e15
    | 16, _ => exact e16
    | 17, _ => exact e17
    | 18, _ => exact e18
    | 19, _ => exact e19
    | 20, _ => exact e20
    | 21, _ => exact e21
    | 22, _ => exact e22
    | 23, _ => exact e23
    | 24, _ => exact e24
    | 25, _ => exact e25
    | 26, _ => exact e26
    | i + 27, hi => simp at hi; omega), r0, r1, r2, r3, r4, r5, r6, r7, r8, r9, r10, r11, r12, r13, r14, r15, r16, r17, r18, r19, r20, r21, r22, r23, r24, r25, r26⟩

theorem cells9 : Try.prog.cellsOf 9 = 1 := by kernel_rfl
theorem cells82 : Try.prog.cellsOf 82 = 27 := by kernel_rfl
theorem cells24 : Try.prog.cellsOf 24 = 1 := by kernel_rfl
/-- names that came in -/
theorem names_in {B n : Nat} {w : World} {a : Option Addr} {len cap : Nat} (h : Is B Try.prog w (n + 2) 22 [.slice a len cap]) : ∃ l : List ByteArray, len = l.length ∧ len ≤ cap ∧ cap ≤ B ∧ Reads w a (names8 l) ∧ (a = none → cap = 0) := by
  obtain ⟨a', n', c', e, h1, h2, h3, l, hl, _, hr⟩ := is_strs Try.underlying22 Try.underlying9 cells9 h
  simp only [List.cons.injEq, Value.slice.injEq, and_true] at e
  obtain ⟨rfl, rfl, rfl⟩ := e
  exact ⟨l, hl.symm, h1, h2, hr, h3⟩
/-- held rules that came in -/
theorem held_in {B n : Nat} {w : World} {a : Option Addr} {len cap : Nat} (h : Is B Try.prog w (n + 6) 24 [.slice a len cap]) : ∃ hs : List (Int × Int), len = hs.length ∧ len ≤ cap ∧ cap ≤ B ∧ HRow w a hs := by
  obtain ⟨a', n', c', e, h1, h2, h3, css, hl, hi, hr⟩ := is_rows Try.underlying24 cells82 (by omega) h
  simp only [List.cons.injEq, Value.slice.injEq, and_true] at e
  obtain ⟨rfl, rfl, rfl⟩ := e
  have each : ∀ (css : List (List Value)), (∀ cs ∈ css, ∃ ck pk, Held cs ck pk) → ∃ hs : List (Int × Int), hs.length = css.length ∧ ∀ (j : Nat) (x : Int × Int), hs[j]? = some x → ∃ cs, css[j]? = some cs ∧ Held cs x.1 x.2 := by
    intro css
    induction css with
    | nil => exact fun _ => ⟨[], rfl, fun j x hx => by simp at hx⟩
    | cons y css ih =>
      intro hx
      obtain ⟨ck, pk, hy⟩ := hx y (List.mem_cons_self ..)
      obtain ⟨hs, hl, hh⟩ := ih fun cs hcs => hx cs (List.mem_cons_of_mem _ hcs)
      refine ⟨(ck, pk) :: hs, by simp [hl], fun j x hj => ?_⟩
      cases j with
      | zero =>
        simp only [List.getElem?_cons_zero, Option.some.injEq] at hj
        subst hj
        exact ⟨y, rfl, hy⟩
      | succ j => exact hh j x (by simpa using hj)
  obtain ⟨hs, hl2, hh⟩ := each css fun cs hcs => by
    obtain ⟨j, hj, e1⟩ := List.mem_iff_getElem.1 hcs
    obtain ⟨k1, _⟩ := hi j cs (by rw [List.getElem?_eq_getElem hj, e1])
    obtain ⟨x0, x1, x2, x3, x4, x5, x6, x7, x8, x9, x10, x11, x12, x13, x14, x15, x16, x17, x18, x19, x20, x21, x22, a23, n23, c23, x24, x25, x26, rfl, r0, r1, r2, r3, r4, r5, r6, r7, r8, r9, r10, r11, r12, r13, r14, r15, r16, r17, r18, r19, r20, r21, r22, r23, r24, r25, r26⟩ := shape82 (n := n) k1
    exact ⟨x24, x25, x0, x1, x2, x3, x4, x5, x6, x7, x8, x9, x10, x11, x12, x13, x14, x15, x16, x17, x18, x19, x20, x21, x22, x24, x25, x26, a23, n23, c23, rfl, rfl, rfl, r24.1, r24.2, r25.1, r25.2⟩
  refine ⟨hs, by omega, h1, h2, fun j x hj => ?_⟩
  obtain ⟨cs, hc1, hc2⟩ := hh j x hj
  cases hn : cs.length with
  | zero =>
    have := (hi j cs hc1).2
    omega
  | succ m =>
    obtain ⟨A, hA, _⟩ := hr j cs 0 (cs[0]'(by omega)) hc1 (List.getElem?_eq_getElem _)
    refine ⟨A, hA, cs, hc2, fun i v hv => ?_⟩
    obtain ⟨A', hA', hcell⟩ := hr j cs i v hc1 hv
    rw [hA] at hA'
    cases hA'
    exact hcell
end Go.Proofs.Ytaomfaehgbgdgaa.B
