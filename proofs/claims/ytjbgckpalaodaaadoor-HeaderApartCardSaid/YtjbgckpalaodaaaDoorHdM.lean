/-
  header: Apart.
-/
import Derived.Test.YtjbgckpalaodaaaDoorHdL
import Derived.Test.YtjbgckpalaodaaaDoorHdK
import Derived.Test.YtjbgckpalaodaaaDoorBD
set_option maxRecDepth 100000
set_option linter.unusedVariables false
set_option linter.unusedSimpArgs false
namespace Go.Proofs.YtjbgckpalaodaaaDoor.B
open Go Go.Proofs Go.Proofs.YtjbgckpalaodaaaDoorEng Go.RowKit

theorem same_dec {a b : HN} (ha : okH a) (hb : okH b) : (((bs (text a)).toList == (bs (text b)).toList) == (((a 0 : Int) == (b 0 : Int)) && (((a 1 : Int) == (b 1 : Int)) && (((a 2 : Int) == (b 2 : Int)) && (((a 3 : Int) == (b 3 : Int)) && (((a 4 : Int) == (b 4 : Int)) && (((a 5 : Int) == (b 5 : Int)) && (((a 6 : Int) == (b 6 : Int)) && (((a 7 : Int) == (b 7 : Int)) && (((a 8 : Int) == (b 8 : Int)) && (((a 9 : Int) == (b 9 : Int)) && (((a 10 : Int) == (b 10 : Int)) && true)))))))))))) = true := by
  rw [bs_beq]
  by_cases h : text a = text b
  · have hf := text_inj ha hb h
    rw [hf 0 (by omega), hf 1 (by omega), hf 2 (by omega), hf 3 (by omega), hf 4 (by omega), hf 5 (by omega), hf 6 (by omega), hf 7 (by omega), hf 8 (by omega), hf 9 (by omega), hf 10 (by omega)]
    simp [h]
  · rw [show decide (text a = text b) = false from by simp [h]]
    simp only [beq_nat, Bool.and_true]
    rw [beq_iff_eq]
    symm
    rw [Bool.eq_false_iff]
    intro hh
    simp only [Bool.and_eq_true, decide_eq_true_eq] at hh
    obtain ⟨e0, e1, e2, e3, e4, e5, e6, e7, e8, e9, e10⟩ := hh
    refine h ?_
    have hall : ∀ f, f < 11 → a f = b f := fun f hf => match f, hf with
      | 0, _ => e0 | 1, _ => e1 | 2, _ => e2 | 3, _ => e3 | 4, _ => e4 | 5, _ => e5 | 6, _ => e6 | 7, _ => e7 | 8, _ => e8 | 9, _ => e9 | 10, _ => e10
      | k + 11, hk => by omega
    unfold text
    rw [if_pos ha, if_pos hb]
    congr 1
    unfold parts
    have hfil : (List.range 11).filter (has a) = (List.range 11).filter (has b) := List.filter_congr fun f hf => by
      unfold has
      rw [hall f (List.mem_range.1 hf)]
    rw [hfil]
    refine List.map_congr_left fun f hf => ?_
    have hlt := List.mem_range.1 (List.mem_filter.1 hf).1
    unfold part
    rw [hall f hlt, hall 2 (by omega)]
theorem apart_ok (w : World) (a b : HN) (hT : Tab w) : Calls Tryd.prog 4 #[.agg (hvs a), .agg (hvs b)] w (endW (Yes w) (fun _ _ => False)) := by
  refine F4_calls _ _ _ _ _ _ _ _ _ _ _ _ _ _ _ _ _ _ _ _ _ _ ?_
  delta F4
  have ba0 : (w.alloc (.cells (hvs a) 24)).heap[w.heap.size]? = some (.cells (hvs a) 24 (0, 0)) := blk_alloc w (.cells (hvs a) 24)
  have bb : ((w.alloc (.cells (hvs a) 24)).alloc (.cells (hvs b) 24)).heap[(w.alloc (.cells (hvs a) 24)).heap.size]? = some (.cells (hvs b) 24 (0, 0)) := blk_alloc _ _
  have ba : ((w.alloc (.cells (hvs a) 24)).alloc (.cells (hvs b) 24)).heap[w.heap.size]? = some (.cells (hvs a) 24 (0, 0)) := (chg_alloc (w.alloc (.cells (hvs a) 24)) (.cells (hvs b) 24) NoS).blk ba0 fun x => x
  have hc0 : Chg NoS w ((w.alloc (.cells (hvs a) 24)).alloc (.cells (hvs b) 24)) := (chg_alloc _ _ _).trans (chg_alloc _ _ _)
  show ∃ x, World.cell? ((w.alloc (.cells (hvs a) 24)).alloc (.cells (hvs b) 24)) _ = some (.int .u64 x) ∧ _
  have hT0 := hT.chg hc0
  have ca := hcell ba
  refine ⟨_, ca 0 (by omega), _, ca 1 (by omega), _, ca 2 (by omega), _, ca 3 (by omega), _, ca 4 (by omega), _, ca 5 (by omega), _, ca 6 (by omega), _, ca 7 (by omega), _, ca 8 (by omega), _, ca 9 (by omega), _, ca 10 (by omega), ?_⟩
  change Calls _ _ _ ((w.alloc (.cells (hvs a) 24)).alloc (.cells (hvs b) 24)) _
  generalize (w.alloc (.cells (hvs a) 24)).alloc (.cells (hvs b) 24) = w0 at ba bb hc0 hT0 ca ⊢
  refine Calls.then (Check_ok w0 a) ?_
  rintro v w1 ⟨rfl, hc1⟩
  refine ⟨_, rfl, ?_⟩
  by_cases hoa : okH a
  · rw [okH_yes hoa, if_pos (by decide)]
    have cb1 := hcell (hc1.blk bb fun x => x)
    refine ⟨_, cb1 0 (by omega), _, cb1 1 (by omega), _, cb1 2 (by omega), _, cb1 3 (by omega), _, cb1 4 (by omega), _, cb1 5 (by omega), _, cb1 6 (by omega), _, cb1 7 (by omega), _, cb1 8 (by omega), _, cb1 9 (by omega), _, cb1 10 (by omega), ?_⟩
    refine Calls.then (Check_ok w1 b) ?_
    rintro v w2 ⟨rfl, hc2⟩
    refine ⟨_, rfl, ?_⟩
    have hc02 := hc1.trans hc2
    by_cases hob : okH b
    · rw [okH_yes hob, if_neg (by decide)]
      have hcd : Chg NoS w0 w2.drew := hc02.trans (chg_drew _ _)
      have cad := hcell (hcd.blk ba fun x => x)
      have cbd := hcell (hcd.blk bb fun x => x)
      refine ⟨NoS, fun x => x, _, cad 0 (by omega), _, cad 1 (by omega), _, cad 2 (by omega), _, cad 3 (by omega), _, cad 4 (by omega), _, cad 5 (by omega), _, cad 6 (by omega), _, cad 7 (by omega), _, cad 8 (by omega), _, cad 9 (by omega), _, cad 10 (by omega), fun x => x, _, cbd 0 (by omega), _, cbd 1 (by omega), _, cbd 2 (by omega), _, cbd 3 (by omega), _, cbd 4 (by omega), _, cbd 5 (by omega), _, cbd 6 (by omega), _, cbd 7 (by omega), _, cbd 8 (by omega), _, cbd 9 (by omega), _, cbd 10 (by omega),
        fun x => x, _, cad 0 (by omega), _, cad 1 (by omega), _, cad 2 (by omega), _, cad 3 (by omega), _, cad 4 (by omega), _, cad 5 (by omega), _, cad 6 (by omega), _, cad 7 (by omega), _, cad 8 (by omega), _, cad 9 (by omega), _, cad 10 (by omega), fun x => x, _, cbd 0 (by omega), _, cbd 1 (by omega), _, cbd 2 (by omega), _, cbd 3 (by omega), _, cbd 4 (by omega), _, cbd 5 (by omega), _, cbd 6 (by omega), _, cbd 7 (by omega), _, cbd 8 (by omega), _, cbd 9 (by omega), _, cbd 10 (by omega), ?_⟩
      refine Calls.then (Text_ok w2.drew a (hT0.chg hcd)) ?_
      rintro v w3 ⟨rfl, hc3⟩
      refine ⟨_, rfl, kept_of hc3, ?_⟩
      refine Calls.then (Text_ok w3 b (hT0.chg (hcd.trans hc3))) ?_
      rintro v w4 ⟨rfl, hc4⟩
      have hc34 := hc3.trans hc4
      refine ⟨_, rfl, kept_of hc34, ?_⟩
      rw [if_pos (same_dec hoa hob)]
      refine ⟨fun x => x, _, cad 0 (by omega), _, cad 1 (by omega), _, cad 2 (by omega), _, cad 3 (by omega), _, cad 4 (by omega), _, cad 5 (by omega), _, cad 6 (by omega), _, cad 7 (by omega), _, cad 8 (by omega), _, cad 9 (by omega), _, cad 10 (by omega), ?_⟩
      have hc04 := hcd.trans hc34
      refine Calls.then (Text_ok w4 a (hT0.chg hc04)) ?_
      rintro v w5 ⟨rfl, hc5⟩
      refine ⟨_, rfl, ?_⟩
      rw [show ({ data := #[] } : ByteArray) = bs [] from rfl, bs_beq, if_pos (by simp [text_some hoa])]
      have hc05 := hc04.trans hc5
      exact wake_end (hT0.chg hc05) (hc0.trans hc05)
    · rw [okH_no hob, if_pos (by decide)]
      exact wake_end (hT0.chg hc02) (hc0.trans hc02)
  · rw [okH_no hoa, if_neg (by decide)]
    exact wake_end (hT0.chg hc1) (hc0.trans hc1)
theorem HeaderApart_walk (cs0 : Array Value) (cs1 : Array Value) (w : World) (i0 : Is maxLen Tryd.prog w 12 24 cs0.toList) (i1 : Is maxLen Tryd.prog w 12 24 cs1.toList) (hT : Tab w) : Told 4 #[.agg cs0, .agg cs1] w := by
  obtain ⟨a, rfl, _⟩ := head_of i0
  obtain ⟨b, rfl, _⟩ := head_of i1
  exact apart_ok w a b hT
end Go.Proofs.YtjbgckpalaodaaaDoor.B
