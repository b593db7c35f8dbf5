/-
  Counts: numbers that many may read; maps of places and of versions.
-/
import Derived.Test.YtaomfaehgbgdgaaOnceB
import Derived.Test.YtaomfaehgbgdgaaEngQ
import Derived.Test.YtaomfaehgbgdgaaBA
import Derived.DeepKeys3
set_option maxRecDepth 100000
set_option linter.unusedVariables false
set_option linter.unusedSimpArgs false
namespace Go.Proofs.Ytaomfaehgbgdgaa.B
open Go Go.Proofs Go.Proofs.YtaomfaehgbgdgaaEng

theorem wSome_some' (A : Addr) (K : Addr → Prop) : wSome (some A) K = K A := rfl
theorem wrap_u64 (n : Int) (h : 0 ≤ n) (h2 : n ≤ 18446744073709551615) : IntKind.wrap .u64 n = n := by
  have h1 : n % 18446744073709551616 = n := by omega
  simpa [IntKind.wrap, IntKind.signed, IntKind.bits] using h1
theorem Load_ok {a : Addr} {x : Int} {w : World} (h : w.cell? a = some (.int .u64 x)) : Calls Try.prog 19 #[.pointer (some a)] w (endW (fun v w' => v = .int .u64 x ∧ w' = w) (fun _ _ => False)) := by
  have hl := run_call_load (P := Try.prog) Try.func24 (by kernel_rfl) (by kernel_rfl) (by kernel_rfl) .u64 (by kernel_rfl) h
  have : Calls Try.prog 19 #[.pointer (some a)] w fun e w' => e = .returned (.int .u64 x) ∧ w' = w := by
    go_enter Try.func19, Try.ntmps19
    go_wp2
    go_ret
    exact ⟨rfl, rfl⟩
  refine this.mono fun e w' h => ?_
  obtain ⟨rfl, rfl⟩ := h
  exact ⟨rfl, rfl⟩
theorem Cas_ok {a : Addr} {x y : Int} {w : World} (h : w.cell? a = some (.int .u64 x)) (hz : w.frozen? a = false) : Calls Try.prog 23 #[.pointer (some a), .int .u64 x, .int .u64 y] w (endW (fun v w' => v = .bool true ∧ w' = w.setCell a (.int .u64 y)) (fun _ _ => False)) := by
  have hl := run_call_cas_hit (P := Try.prog) Try.func27 (by kernel_rfl) (by kernel_rfl) (by kernel_rfl) .u64 (by kernel_rfl) (y := y) h hz
  have : Calls Try.prog 23 #[.pointer (some a), .int .u64 x, .int .u64 y] w fun e w' => e = .returned (.bool true) ∧ w' = w.setCell a (.int .u64 y) := by
    go_enter Try.func23, Try.ntmps23
    go_wp2
    go_ret
    exact ⟨rfl, rfl⟩
  refine this.mono fun e w' h => ?_
  obtain ⟨rfl, rfl⟩ := h
  exact ⟨rfl, rfl⟩
/-- a sum that stays at the end -/
def satS (n : Nat) : Nat := min n 18446744073709551615
def SumAt (w : World) (k : Nat) (n : Nat) : Prop := w.heap[k]? = some (.cells #[.int .u64 n] 90 (0, 0))
theorem satS_le (n : Nat) : satS n ≤ 18446744073709551615 := by unfold satS; omega
theorem satS_add (a b : Nat) : satS (satS a + b) = satS (a + b) := by unfold satS; omega
theorem Add_ok {w : World} {k n m : Nat} (h : SumAt w k n) (hn : n ≤ 18446744073709551615) (hm : m ≤ 18446744073709551615) :
    Calls Try.prog 18 #[.pointer (some ⟨k, 0, none⟩), .int .u64 m] w (endW (fun v w' => v = .tuple #[] ∧ SumAt w' k (satS (n + m)) ∧ Chg (OnlyB k) w w' ∧ w'.heap.size = w.heap.size) (fun _ _ => False)) := by
  have h' : w.heap[k]? = some (.cells #[.int .u64 n] 90 (0, 0)) := h
  have hc : w.cell? (addK ⟨k, 0, none⟩ 0) = some (.int .u64 n) := by rw [addK_zero, cell_blk h']; rfl
  have hz : w.frozen? (addK ⟨k, 0, none⟩ 0) = false := by rw [addK_zero]; exact frozen_blk h' 0 none
  refine F18_calls (some ⟨k, 0, none⟩) m ?_
  delta F18
  refine ⟨fun _ w1 => w1 = w, fun _ _ => 0, ⟨(), trivial, rfl⟩, ?_⟩
  rintro _ w1 rfl _
  rw [wSome_some']
  refine Calls.then (Load_ok hc) ?_
  rintro r w2 ⟨rfl, rfl⟩
  refine ⟨_, rfl, ?_⟩
  have fin : ∀ y : Nat, y = satS (n + m) → SumAt (w2.setCell (addK ⟨k, 0, none⟩ 0) (.int .u64 y)) k (satS (n + m)) ∧ Chg (OnlyB k) w2 (w2.setCell (addK ⟨k, 0, none⟩ 0) (.int .u64 y)) ∧ (w2.setCell (addK ⟨k, 0, none⟩ 0) (.int .u64 y)).heap.size = w2.heap.size := fun y hy => by
    subst hy
    rw [addK_zero]
    exact ⟨blk_setCell h' 0 _, chg_setCell w2 k 0 _, size_setCell w2 _ _⟩
  by_cases hs : n + m ≤ 18446744073709551615
  · have e : IntKind.wrap .u64 ((n : Int) + m) = ((n + m : Nat) : Int) := by rw [wrap_u64 _ (by omega) (by omega)]; omega
    rw [if_neg (by rw [e]; simp; omega), wSome_some', e]
    refine Calls.then (Cas_ok hc hz) ?_
    rintro r w3 ⟨rfl, rfl⟩
    refine ⟨_, rfl, ?_⟩
    rw [if_pos rfl]
    exact ⟨rfl, fin (n + m) (by unfold satS; omega)⟩
  · have e : IntKind.wrap .u64 ((n : Int) + m) = (n : Int) + m - 18446744073709551616 := by
      have h1 : ((n : Int) + m) % 18446744073709551616 = (n : Int) + m - 18446744073709551616 := by omega
      simpa [IntKind.wrap, IntKind.signed, IntKind.bits] using h1
    rw [if_pos (by rw [e]; simp; omega), wSome_some']
    refine Calls.then (Cas_ok hc hz) ?_
    rintro r w3 ⟨rfl, rfl⟩
    refine ⟨_, rfl, ?_⟩
    rw [if_pos rfl]
    exact ⟨rfl, fin 18446744073709551615 (by unfold satS; omega)⟩
end Go.Proofs.Ytaomfaehgbgdgaa.B
