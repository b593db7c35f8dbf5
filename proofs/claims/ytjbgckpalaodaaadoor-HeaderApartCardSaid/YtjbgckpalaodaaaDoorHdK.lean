/-
  header: what comes in, opened: the eleven numbers, the table of tens.
-/
import Derived.Test.YtjbgckpalaodaaaDoorHdJ
import Derived.Test.YtjbgckpalaodaaaDoorEngO
import Derived.Test.YtjbgckpalaodaaaDoorEngT
import Derived.Test.YtjbgckpalaodaaaDoorRows
import Derived.Lib.LaidTab
import Derived.MakeChecks
set_option maxRecDepth 100000
set_option linter.unusedVariables false
set_option linter.unusedSimpArgs false
namespace Go.Proofs.YtjbgckpalaodaaaDoor.B
open Go Go.Proofs Go.Proofs.YtjbgckpalaodaaaDoorEng Go.RowKit Go.ChangeShapes Go.WideShapes

theorem okWide_array {P : Program} {w : World} {r : Reach} {base n : Nat} {t e : TypeId} {v : Value} (ht : P.underlying t = some (.array n e)) (h : Value.okWide P w r base t v) : ∃ cs, v = .agg cs ∧ cs.size = P.cellsOf t := by
  simp only [Value.okWide, ht] at h
  obtain ⟨cs, h1, h2, _⟩ := h
  exact ⟨cs, h1, h2⟩
theorem shape24 {B n : Nat} {w : World} {cs : List Value} (h : Is B Tryd.prog w (n + 2) 24 cs) : ∃ (x0 : Int) (x1 : Int) (x2 : Int) (x3 : Int) (x4 : Int) (x5 : Int) (x6 : Int) (x7 : Int) (x8 : Int) (x9 : Int) (x10 : Int), cs = [.int .u64 x0, .int .u64 x1, .int .u64 x2, .int .u64 x3, .int .u64 x4, .int .u64 x5, .int .u64 x6, .int .u64 x7, .int .u64 x8, .int .u64 x9, .int .u64 x10] ∧ (0 ≤ x0 ∧ x0 ≤ 18446744073709551615) ∧ (0 ≤ x1 ∧ x1 ≤ 18446744073709551615) ∧ (0 ≤ x2 ∧ x2 ≤ 18446744073709551615) ∧ (0 ≤ x3 ∧ x3 ≤ 18446744073709551615) ∧ (0 ≤ x4 ∧ x4 ≤ 18446744073709551615) ∧ (0 ≤ x5 ∧ x5 ≤ 18446744073709551615) ∧ (0 ≤ x6 ∧ x6 ≤ 18446744073709551615) ∧ (0 ≤ x7 ∧ x7 ≤ 18446744073709551615) ∧ (0 ≤ x8 ∧ x8 ≤ 18446744073709551615) ∧ (0 ≤ x9 ∧ x9 ≤ 18446744073709551615) ∧ (0 ≤ x10 ∧ x10 ≤ 18446744073709551615) := by
  have hl : cs.length = 11 := (is_len h (by kernel_rfl) (c := 11) (by kernel_rfl))
  have h0 := is_top h hl
  have g1 := is_elem h0 Tryd.underlying24 (i := 0) (c2 := 1) (by decide) (by kernel_rfl) (by decide)
  have g2 := is_elem h0 Tryd.underlying24 (i := 1) (c2 := 1) (by decide) (by kernel_rfl) (by decide)
  have g3 := is_elem h0 Tryd.underlying24 (i := 2) (c2 := 1) (by decide) (by kernel_rfl) (by decide)
  have g4 := is_elem h0 Tryd.underlying24 (i := 3) (c2 := 1) (by decide) (by kernel_rfl) (by decide)
  have g5 := is_elem h0 Tryd.underlying24 (i := 4) (c2 := 1) (by decide) (by kernel_rfl) (by decide)
  have g6 := is_elem h0 Tryd.underlying24 (i := 5) (c2 := 1) (by decide) (by kernel_rfl) (by decide)
  have g7 := is_elem h0 Tryd.underlying24 (i := 6) (c2 := 1) (by decide) (by kernel_rfl) (by decide)
  have g8 := is_elem h0 Tryd.underlying24 (i := 7) (c2 := 1) (by decide) (by kernel_rfl) (by decide)
  have g9 := is_elem h0 Tryd.underlying24 (i := 8) (c2 := 1) (by decide) (by kernel_rfl) (by decide)
  have g10 := is_elem h0 Tryd.underlying24 (i := 9) (c2 := 1) (by decide) (by kernel_rfl) (by decide)
  have g11 := is_elem h0 Tryd.underlying24 (i := 10) (c2 := 1) (by decide) (by kernel_rfl) (by decide)
  obtain ⟨x0, e0, f0⟩ := is_int (k := .u64) g1 Tryd.underlying22
  have r0 : 0 ≤ x0 ∧ x0 ≤ 18446744073709551615 := wf_u64 f0
  obtain ⟨x1, e1, f1⟩ := is_int (k := .u64) g2 Tryd.underlying22
  have r1 : 0 ≤ x1 ∧ x1 ≤ 18446744073709551615 := wf_u64 f1
  obtain ⟨x2, e2, f2⟩ := is_int (k := .u64) g3 Tryd.underlying22
  have r2 : 0 ≤ x2 ∧ x2 ≤ 18446744073709551615 := wf_u64 f2
  obtain ⟨x3, e3, f3⟩ := is_int (k := .u64) g4 Tryd.underlying22
  have r3 : 0 ≤ x3 ∧ x3 ≤ 18446744073709551615 := wf_u64 f3
  obtain ⟨x4, e4, f4⟩ := is_int (k := .u64) g5 Tryd.underlying22
  have r4 : 0 ≤ x4 ∧ x4 ≤ 18446744073709551615 := wf_u64 f4
  obtain ⟨x5, e5, f5⟩ := is_int (k := .u64) g6 Tryd.underlying22
  have r5 : 0 ≤ x5 ∧ x5 ≤ 18446744073709551615 := wf_u64 f5
  obtain ⟨x6, e6, f6⟩ := is_int (k := .u64) g7 Tryd.underlying22
  have r6 : 0 ≤ x6 ∧ x6 ≤ 18446744073709551615 := wf_u64 f6
  obtain ⟨x7, e7, f7⟩ := is_int (k := .u64) g8 Tryd.underlying22
  have r7 : 0 ≤ x7 ∧ x7 ≤ 18446744073709551615 := wf_u64 f7
  obtain ⟨x8, e8, f8⟩ := is_int (k := .u64) g9 Tryd.underlying22
  have r8 : 0 ≤ x8 ∧ x8 ≤ 18446744073709551615 := wf_u64 f8
  obtain ⟨x9, e9, f9⟩ := is_int (k := .u64) g10 Tryd.underlying22
  have r9 : 0 ≤ x9 ∧ x9 ≤ 18446744073709551615 := wf_u64 f9
  obtain ⟨x10, e10, f10⟩ := is_int (k := .u64) g11 Tryd.underlying22
  have r10 : 0 ≤ x10 ∧ x10 ≤ 18446744073709551615 := wf_u64 f10
  refine ⟨x0, x1, x2, x3, x4, x5, x6, x7, x8, x9, x10, list_of hl (by
    intro i hi
    match i, hi with
    | 0, _ => exact e0
    | 1, _ => exact e1
    | 2, _ => exact e2
    | 3, _ => exact e3
    | 4, _ => exact e4
    | 5, _ => exact e5
    | 6, _ => exact e6
    | 7, _ => exact e7
    | 8, _ => exact e8
    | 9, _ => exact e9
    | 10, _ => exact e10
    | i + 11, hi => simp at hi; omega), r0, r1, r2, r3, r4, r5, r6, r7, r8, r9, r10⟩


theorem gP : Tryd.prog.globalNamed "internal/strconv.uint64pow10" = some 0 := by kernel_rfl
theorem tP : (Tryd.prog.globals[0]?).map (·.type) = some 71 := by kernel_rfl
theorem cP : Tryd.prog.cellsOf 71 = 20 := by kernel_rfl
theorem c22 : Tryd.prog.cellsOf 22 = 1 := by kernel_rfl
def tens : List Int := [1, 10, 100, 1000, 10000, 100000, 1000000, 10000000, 100000000, 1000000000, 10000000000, 100000000000, 1000000000000, 10000000000000, 100000000000000, 1000000000000000, 10000000000000000, 100000000000000000, 1000000000000000000, 10000000000000000000]
theorem tens_at : ∀ i, i < 20 → tens.getD i 0 = ((10 ^ i : Nat) : Int) := by decide
theorem of_laid {W : World} (h : laidMetH Tryd.prog [("math/bits.deBruijn32tab", Rows.laid_math_bits_deBruijn32tab), ("math/bits.deBruijn64tab", Rows.laid_math_bits_deBruijn64tab), ("internal/strconv.uint64pow10", Rows.laid_internal_strconv_uint64pow10)] W) : Tab W := by
  rw [MakeChecks.laidMetH_plain _ _ _ (by kernel_rfl)] at h
  obtain ⟨ps, ⟨g0, t0, cs0, f0, p0, q0, hg0, ht0, hv0, hd0, ⟨g1, t1, cs1, f1, p1, q1, hg1, ht1, hv1, hd1, ⟨g2, t2, cs2, f2, p2, q2, hg2, ht2, hv2, hd2, _, _⟩, _⟩, _⟩, _, _⟩ := h
  obtain rfl := Option.some.inj (gP.symm.trans hg2)
  obtain rfl := Option.some.inj (tP.symm.trans ht2)
  have he : cs2.toList = tens.map fun z => Value.int .u64 z := Lib.cells_of_tab (k := .u64) (zs := tens) Tryd.underlying71 Tryd.underlying22 c22 cP hd2
  have hT : Lib.TabIs Tryd.prog W "internal/strconv.uint64pow10" .u64 tens := by
    unfold Lib.TabIs
    rw [hv2, ← he]
  intro i hi
  have := hT.cell gP i (by show i < 20; exact hi)
  rw [tens_at i hi] at this
  exact this

theorem hn_of {x0 x1 x2 x3 x4 x5 x6 x7 x8 x9 x10 : Int} (h0 : 0 ≤ x0 ∧ x0 ≤ 18446744073709551615) (h1 : 0 ≤ x1 ∧ x1 ≤ 18446744073709551615) (h2 : 0 ≤ x2 ∧ x2 ≤ 18446744073709551615) (h3 : 0 ≤ x3 ∧ x3 ≤ 18446744073709551615) (h4 : 0 ≤ x4 ∧ x4 ≤ 18446744073709551615) (h5 : 0 ≤ x5 ∧ x5 ≤ 18446744073709551615) (h6 : 0 ≤ x6 ∧ x6 ≤ 18446744073709551615) (h7 : 0 ≤ x7 ∧ x7 ≤ 18446744073709551615) (h8 : 0 ≤ x8 ∧ x8 ≤ 18446744073709551615) (h9 : 0 ≤ x9 ∧ x9 ≤ 18446744073709551615) (h10 : 0 ≤ x10 ∧ x10 ≤ 18446744073709551615) :
    ∃ h : HN, (#[.int .u64 x0, .int .u64 x1, .int .u64 x2, .int .u64 x3, .int .u64 x4, .int .u64 x5, .int .u64 x6, .int .u64 x7, .int .u64 x8, .int .u64 x9, .int .u64 x10] : Array Value) = hvs h ∧ ∀ k, k < 11 → h k < 18446744073709551616 := by
  obtain ⟨n0, rfl⟩ := Int.eq_ofNat_of_zero_le h0.1
  obtain ⟨n1, rfl⟩ := Int.eq_ofNat_of_zero_le h1.1
  obtain ⟨n2, rfl⟩ := Int.eq_ofNat_of_zero_le h2.1
  obtain ⟨n3, rfl⟩ := Int.eq_ofNat_of_zero_le h3.1
  obtain ⟨n4, rfl⟩ := Int.eq_ofNat_of_zero_le h4.1
  obtain ⟨n5, rfl⟩ := Int.eq_ofNat_of_zero_le h5.1
  obtain ⟨n6, rfl⟩ := Int.eq_ofNat_of_zero_le h6.1
  obtain ⟨n7, rfl⟩ := Int.eq_ofNat_of_zero_le h7.1
  obtain ⟨n8, rfl⟩ := Int.eq_ofNat_of_zero_le h8.1
  obtain ⟨n9, rfl⟩ := Int.eq_ofNat_of_zero_le h9.1
  obtain ⟨n10, rfl⟩ := Int.eq_ofNat_of_zero_le h10.1
  refine ⟨lst [n0, n1, n2, n3, n4, n5, n6, n7, n8, n9, n10], rfl, fun k hk => ?_⟩
  match k, hk with
  | 0, _ => show n0 < _; omega
  | 1, _ => show n1 < _; omega
  | 2, _ => show n2 < _; omega
  | 3, _ => show n3 < _; omega
  | 4, _ => show n4 < _; omega
  | 5, _ => show n5 < _; omega
  | 6, _ => show n6 < _; omega
  | 7, _ => show n7 < _; omega
  | 8, _ => show n8 < _; omega
  | 9, _ => show n9 < _; omega
  | 10, _ => show n10 < _; omega
  | k + 11, hk => omega
theorem head_of {cs : Array Value} {w : World} {n : Nat} (i : Is maxLen Tryd.prog w (n + 2) 24 cs.toList) : ∃ h : HN, cs = hvs h ∧ ∀ k, k < 11 → h k < 18446744073709551616 := by
  obtain ⟨x0, x1, x2, x3, x4, x5, x6, x7, x8, x9, x10, e, r0, r1, r2, r3, r4, r5, r6, r7, r8, r9, r10⟩ := shape24 i
  obtain ⟨h, eh, hh⟩ := hn_of r0 r1 r2 r3 r4 r5 r6 r7 r8 r9 r10
  exact ⟨h, (Array.toList_inj.1 e).trans eh, hh⟩
abbrev Told (K : Nat) (args : Array Value) (w : World) : Prop := Calls Tryd.prog K args w (endW (fun v w' => v = .bool true ∧ Chg NoS w w') (fun _ _ => False))
theorem u8_of {w : World} {n : Nat} {z : Int} {t : TypeId} (ht : Tryd.prog.underlying t = some (.int .u8)) (i : Is maxLen Tryd.prog w (n + 1) t [.int .u8 z]) : 0 ≤ z ∧ z < 256 := by
  obtain ⟨x, e, f⟩ := is_int (k := .u8) (o := 0) (cs := [.int .u8 z]) i ht
  simp at e
  subst e
  have := wf_u8 f
  omega
theorem HeaderTells_walk (cs0 : Array Value) (a1 : Int) (w : World) (i0 : Is maxLen Tryd.prog w 12 24 cs0.toList) (i1 : Is maxLen Tryd.prog w 12 25 [.int .i8 a1]) (hT : Tab w) : Told 3 #[.agg cs0, .int .i8 a1] w := by
  obtain ⟨h, rfl, _⟩ := head_of i0
  exact tells_ok w h a1 hT
theorem HeaderLess_walk (cs0 : Array Value) (a1 : Int) (w : World) (i0 : Is maxLen Tryd.prog w 12 24 cs0.toList) (i1 : Is maxLen Tryd.prog w 12 5 [.int .u8 a1]) (hT : Tab w) : Told 5 #[.agg cs0, .int .u8 a1] w := by
  obtain ⟨h, rfl, _⟩ := head_of i0
  have hz := u8_of Tryd.underlying5 i1
  exact less_ok w h a1 hz.1 hz.2 hT
theorem HeaderWide_walk (cs0 : Array Value) (a1 : Int) (a2 : Int) (w : World) (i0 : Is maxLen Tryd.prog w 12 24 cs0.toList) (i1 : Is maxLen Tryd.prog w 12 5 [.int .u8 a1]) (i2 : Is maxLen Tryd.prog w 12 5 [.int .u8 a2]) (hT : Tab w) : Told 6 #[.agg cs0, .int .u8 a1, .int .u8 a2] w := by
  obtain ⟨h, rfl, hh⟩ := head_of i0
  have hz := u8_of Tryd.underlying5 i1
  have hy := u8_of Tryd.underlying5 i2
  exact wide_ok w h hh a1 a2 hz.1 hz.2 hy.1 hy.2 hT
theorem HeaderKnown_walk (w : World) (hT : Tab w) : Told 7 #[] w := known_ok w hT
end Go.Proofs.YtjbgckpalaodaaaDoor.B
