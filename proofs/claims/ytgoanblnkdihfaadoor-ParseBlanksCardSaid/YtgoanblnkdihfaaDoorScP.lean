/-
  scan: what the listed variables hold.
-/
import Derived.Test.YtgoanblnkdihfaaDoorPaQ
import Derived.Test.YtgoanblnkdihfaaDoorRows
import Derived.LaidHandle
import Derived.LaidMore
import Derived.LaidLaws
import Derived.OpenShut
set_option maxRecDepth 100000
namespace Go.Proofs.YtgoanblnkdihfaaDoor.B
open Go Go.Proofs Go.Proofs.YtgoanblnkdihfaaDoorEng Go.RowKit Go.ChangeShapes Go.WideShapes
theorem gEt : Tryd.prog.globalNamed "errors.errorType" = some 0 := by kernel_rfl
theorem gSy : Tryd.prog.globalNamed "strconv.ErrSyntax" = some 1 := by kernel_rfl
theorem gRa : Tryd.prog.globalNamed "strconv.ErrRange" = some 2 := by kernel_rfl
theorem tSy : (Tryd.prog.globals[1]?).map (·.type) = some 33 := by kernel_rfl
theorem tRa : (Tryd.prog.globals[2]?).map (·.type) = some 33 := by kernel_rfl
theorem rtRow : (Tryd.prog.cutTypes.find? (·.1 == "internal/reflectlite.rtype")).map (·.2) = some 95 := by kernel_rfl
theorem oneRow : ((List.range 178).filter fun t => Tryd.prog.rowNamed t [101, 114, 114, 111, 114]) = [33] := by kernel_rfl
theorem typesSize : Tryd.prog.types.size = 178 := by kernel_rfl
theorem of_laid {W : World} (h : laidMetH Tryd.prog [("math/bits.deBruijn32tab", Rows.laid_math_bits_deBruijn32tab), ("math/bits.deBruijn64tab", Rows.laid_math_bits_deBruijn64tab), ("internal/strconv.uint64pow10", Rows.laid_internal_strconv_uint64pow10), ("errors.errorType", Rows.laid_errors_errorType), ("strconv.ErrRange", Rows.laid_strconv_ErrRange), ("strconv.ErrSyntax", Rows.laid_strconv_ErrSyntax)] W) : Libs W := by
  have h' : laidMet Tryd.prog [("math/bits.deBruijn32tab", Rows.laid_math_bits_deBruijn32tab), ("math/bits.deBruijn64tab", Rows.laid_math_bits_deBruijn64tab), ("internal/strconv.uint64pow10", Rows.laid_internal_strconv_uint64pow10), ("strconv.ErrRange", Rows.laid_strconv_ErrRange), ("strconv.ErrSyntax", Rows.laid_strconv_ErrSyntax)] W ∧ handlesMet Tryd.prog [("errors.errorType", Rows.laid_errors_errorType)] W := h
  obtain ⟨hd, hh⟩ := h'
  obtain ⟨name, u, ty, e1, e2, e3, e4, e5⟩ := hh _ (List.mem_singleton.2 rfl)
  have en : name = [101, 114, 114, 111, 114] := (Option.some.inj e1).symm
  subst en
  obtain rfl := Option.some.inj (rtRow.symm.trans e2)
  have hm : ty ∈ (List.range 178).filter fun t => Tryd.prog.rowNamed t [101, 114, 114, 111, 114] := List.mem_filter.2 ⟨List.mem_range.2 (by rw [← typesSize]; exact e3), e4⟩
  rw [oneRow] at hm
  obtain rfl := List.mem_singleton.1 hm
  have hth : typeHandle Tryd.prog 33 = .pointer (some ⟨6, 33, none⟩) := by kernel_rfl
  rw [hth] at e5
  have hg : W.cell? ⟨0, 0, none⟩ = some (.iface 95 (.agg #[.pointer (some ⟨6, 33, none⟩)])) := by simpa using World.var?_cell gEt e5 0
  obtain ⟨ps, ⟨g0, t0, cs0, f0, p0, q0, hg0, ht0, hv0, hd0, ⟨g1, t1, cs1, f1, p1, q1, hg1, ht1, hv1, hd1, ⟨g2, t2, cs2, f2, p2, q2, hg2, ht2, hv2, hd2, ⟨g3, t3, cs3, f3, p3, q3, hg3, ht3, hv3, hd3, ⟨g4, t4, cs4, f4, p4, q4, hg4, ht4, hv4, hd4, _, _⟩, _⟩, _⟩, _⟩, _⟩, _, _⟩ := hd
  obtain rfl := Option.some.inj (gRa.symm.trans hg3)
  obtain rfl := Option.some.inj (tRa.symm.trans ht3)
  obtain rfl := Option.some.inj (gSy.symm.trans hg4)
  obtain rfl := Option.some.inj (tSy.symm.trans ht4)
  have one : ∀ (g : Nat) (n : String) (cs : Array Value) (fuel : Nat) (nm : String) (d : DataW Unit) (p : List MemPlace), Tryd.prog.globalNamed n = some g → W.var? Tryd.prog n = some cs → DataW.trod (fun _ => ()) Tryd.prog W 0 (fun _ => true) false fuel 33 cs.toList = some (.iface nm d, p) → ∃ t z, W.cell? ⟨g, 0, none⟩ = some (.iface t z) := fun g n cs fuel nm d p hgn hv htr => by
    have := iface_of_trod Tryd.underlying33 htr
    obtain ⟨_, u, v, hcs, _⟩ := this
    refine ⟨u, v, ?_⟩
    have h0 := World.var?_cell hgn hv 0
    rw [h0, Array.eq_one_of_toList hcs]
    rfl
  exact ⟨⟨one 1 _ _ _ _ _ _ gSy hv4 hd4, one 2 _ _ _ _ _ _ gRa hv3 hd3⟩, hg⟩
end Go.Proofs.YtgoanblnkdihfaaDoor.B
