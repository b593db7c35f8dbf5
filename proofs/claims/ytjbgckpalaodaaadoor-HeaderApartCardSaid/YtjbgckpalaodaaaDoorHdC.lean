/-
  header: strings.Builder's copyCheck and WriteByte; hex; FormatUint.
-/
import Derived.Test.YtjbgckpalaodaaaDoorBB
import Derived.Test.YtjbgckpalaodaaaDoorShelf
import Derived.Test.YtjbgckpalaodaaaDoorEngV
import Derived.Test.YtjbgckpalaodaaaDoorEngU
import Derived.Test.YtjbgckpalaodaaaDoorHdA
import Derived.Lib.Builder
import Derived.Lib.ItoaNum
import Derived.Lib.ItoaMem
import Derived.Lib.Join
import Derived.WalkKit
import Derived.Laws.Externs
set_option maxRecDepth 100000
set_option linter.unusedVariables false
set_option linter.unusedSimpArgs false
namespace Go.Proofs.YtjbgckpalaodaaaDoor.B
open Go Go.Proofs Go.Proofs.YtjbgckpalaodaaaDoorEng Go.RowKit

theorem below_chg {B : Nat} {w w' : World} (h : Below B w w') : Chg (fun k => B ≤ k) w w' := ⟨h.os, h.tape, h.output, h.size, fun k _ hk => h.block k (by omega)⟩
theorem below_new {w w' : World} (h : Below w.heap.size w w') : Chg NoS w w' := (below_chg h).mono fun k hk h => by omega
theorem chg_below {S : Nat → Prop} {B : Nat} {w w' : World} (h : Chg S w w') (hs : ∀ k, k < B → ¬ S k) (hB : B ≤ w.heap.size) : Below B w w' := h.below hB hs

theorem copyCheck_used (b : Nat) (w : World) (h0 : w.cell? ⟨b, 0, none⟩ = some (.pointer (some ⟨b, 0, none⟩))) :
    Calls Tryd.prog 31 #[.pointer (some ⟨b, 0, none⟩)] w fun e w' => e = .returned (.tuple #[]) ∧ w' = w := by
  obtain ⟨j, hj, _⟩ := Option.map_eq_some_iff.1 Tryd.Builder_Extra_169.sizeBuilder
  go_enter Tryd.func31, Tryd.ntmps31
  go_wp2
  rw [Lib.run_neq_ptr_same w _ Tryd.underlying47 hj]
  go_wp2
  go_end0
  exact ⟨rfl, rfl⟩
theorem copyCheck_fresh (b : Nat) (w : World) (h0 : w.cell? ⟨b, 0, none⟩ = some (.pointer none)) (hsh : w.shape? b = some (50, 2)) (hfz : w.frozen? ⟨b, 0, none⟩ = false) :
    Calls Tryd.prog 31 #[.pointer (some ⟨b, 0, none⟩)] w fun e w' => e = .returned (.tuple #[]) ∧ w' = w.setCell ⟨b, 0, none⟩ (.pointer (some ⟨b, 0, none⟩)) := by
  obtain ⟨j, hj, hjs⟩ := Option.map_eq_some_iff.1 Tryd.Builder_Extra_169.sizeBuilder
  go_enter Tryd.func31, Tryd.ntmps31
  go_wp2
  rw [Lib.run_to_unsafe w ⟨b, 0, none⟩ Tryd.underlying47 Tryd.underlying60 hj (by rw [hjs]; decide) hsh (Nat.zero_lt_succ 1)]
  simp only [Result.andThen]
  rw [Oper.upon_value]
  go_wp2
  rw [run_callFunc_extern Tryd.func34 (by kernel_rfl) (by kernel_rfl) (by kernel_rfl) (e := Extern.AbiNoEscape.same) (by kernel_rfl)]
  rw [Lib.run_noEscape]
  simp only [Result.andThen]
  rw [Oper.upon_value]
  go_wp2
  rw [Lib.run_from_unsafe w ⟨b, 0, none⟩ Tryd.underlying60 Tryd.underlying47 hj hsh Tryd.Builder_Extra_169.liesBuilder]
  simp only [Result.andThen]
  rw [Oper.upon_value]
  go_wp2
  go_end0
  exact ⟨rfl, rfl⟩
theorem copyCheck_ok (B b : Nat) (l : List Value) (w : World) (h : Lib.IsBuilder 50 5 B b l w) :
    Calls Tryd.prog 31 #[.pointer (some ⟨b, 0, none⟩)] w (endW (fun v w' => Lib.BuilderAt 50 5 B b (.pointer (some ⟨b, 0, none⟩)) l w' ∧ Below B w w') (fun _ _ => False)) := by
  rcases h with h | h
  · refine (copyCheck_fresh b w h.cell0 h.shape h.frozen0).mono ?_
    rintro e w' ⟨rfl, rfl⟩
    exact ⟨h.used _, (Below.refl B w).setCell (p := ⟨b, 0, none⟩) h.1 _⟩
  · refine (copyCheck_used b w h.cell0).mono ?_
    rintro e w' ⟨rfl, rfl⟩
    exact ⟨h, Below.refl _ _⟩
theorem ByteT' : ByteT Tryd.prog 48 5 := ⟨by kernel_rfl, by kernel_rfl, by kernel_rfl⟩
theorem WriteByte_ok (B b : Nat) (l : List UInt8) (c : UInt8) (w : World) (h : Lib.IsBuilder 50 5 B b (vals l) w) (hl : l.length < 1000000) (hBw : B ≤ w.heap.size) :
    Calls Tryd.prog 25 #[.pointer (some ⟨b, 0, none⟩), .int .u8 (c.toNat : Int)] w (endW (fun v w' => Lib.BuilderAt 50 5 B b (.pointer (some ⟨b, 0, none⟩)) (vals (l ++ [c])) w' ∧ Below B w w') (fun _ _ => False)) := by
  refine F25_calls _ _ ?_
  delta F25
  refine Calls.then (copyCheck_ok B b _ w h) ?_
  rintro v w1 ⟨⟨hB, x, hb, hown, hne⟩, hbel⟩
  have hlen : (vals l).length = l.length := vals_length l
  rw [hlen] at hown
  obtain ⟨a, c1, rfl, hnc, _⟩ := own_form hown
  refine wSome_of rfl ⟨a, l.length, c1, by rw [addK_lit, cell_blk hb]; rfl, ?_⟩
  have hlit := blk_alloc w1 (.cells #[.int .u8 (c.toNat : Int)] 5)
  have hca := chg_alloc w1 (.cells #[.int .u8 (c.toNat : Int)] 5) NoS
  refine bytes_append (bs := l) (ns := [c]) (base := B) ByteT' Tryd.underlying48 (own_of_chg hown hca fun _ _ x => x) rfl (reads_lit hlit) (fun e => by cases e) (by omega) (by have := hbel.size; rw [size_alloc]; omega) ?_
  intro a' c' w2 ho2 hc2 hb2
  have hlt1 := lt_of_blk hb
  have hbb : w2.heap[b]? = some (.cells #[.pointer (some ⟨b, 0, none⟩), .slice a l.length c1] 50 (0, 0)) := by
    refine hc2.blk (hca.blk hb fun x => x) fun e => hne (by simpa using e)
  refine ⟨_, _, _, rfl, wSome_of rfl ?_⟩
  rw [addK_lit, Nat.zero_add]
  refine setW_blk hbb (by simp) rfl ?_
  intro w3 hb3 hc3 hs3
  have hown2 : w2.ownsRow B 5 1 (.slice a' (l.length + 1) c') (vals (l ++ [c])).length (vals (l ++ [c])) := by rw [vals_length, List.length_append]; exact ho2
  have hne2 : (Value.slice a' (l.length + 1) c').ownBlock ≠ some b := Lib.ownBlock_ne hown2 hbb (by decide)
  refine ⟨⟨hB, .slice a' (l.length + 1) c', hb3, own_of_chg hown2 hc3 fun k hk e => hne2 (by rw [hk, show k = b from e]), hne2⟩, ?_⟩
  have hS1 : ∀ k, k < B → ¬ (fun k => (Value.slice a l.length c1).ownBlock = some k) k := fun k hk e => by have := (own_lt' hown e).2; omega
  have b1 : Below B w1 w2 := (hca.below (B := B) (by have := hbel.size; omega) fun k _ x => x).trans (hc2.below (by have := hbel.size; rw [size_alloc]; omega) hS1)
  have b2 : Below B w2 w3 := hc3.below (by have := hc2.size; rw [size_alloc] at this; have := hbel.size; omega) fun k hk e => by have : k = b := e; omega
  exact (hbel.trans b1).trans b2
end Go.Proofs.YtjbgckpalaodaaaDoor.B
