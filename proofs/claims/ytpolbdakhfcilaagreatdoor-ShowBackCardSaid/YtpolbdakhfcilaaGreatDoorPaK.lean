/-
  parse: what Policy defers: nothing where it returns; where the reader gave up, its fault is laid.
-/
import Derived.Test.YtpolbdakhfcilaaGreatDoorPaGJ
import Derived.Test.YtpolbdakhfcilaaGreatDoorBH
import Derived.Tactics
import Derived.Tactics2
import Derived.Defers
import Derived.Recover
import Derived.Laws.Pointers
import Derived.RegionTactic
import Derived.RegionCalls
set_option maxRecDepth 100000
set_option linter.unusedVariables false
set_option linter.unusedSimpArgs false
namespace Go.Proofs.YtpolbdakhfcilaaGreatDoor.B
open Go Go.Proofs Go.Proofs.YtpolbdakhfcilaaGreatDoorEng Go.RowKit

theorem catch_idle (p e : Addr) (w : World) :
    CallsD Tryz.prog 21 #[.pointer (some p), .pointer (some e)] .returning w fun ev u' w' => ev = .returned (.tuple #[]) ∧ u' = .returning ∧ w' = w := by
  refine callsD_of_wpS Tryz.func21 rfl fun c₀ cs hu => ?_
  apply wpS_seq
  apply wpS_region
  simp [wpOpsS, go_sem, recoverD, hu, Tryz.ntmps21, Exit.thenS]
  refine wpS_of_wp ?_
  go_wp2
  cases c₀
  simp_all [bodyPostS, results, Tryz.results21]
theorem act14 (p e x : Value) (t : Nat) : (#[p, e] ++ (Array.replicate 12 undef).setIfInBounds 3 x : Array Value).getD t undef = putE (argEnv [p, e]) (some 5) x t := by
  simp only [putE, upd_eq, argEnv]
  rw [Array.getD_eq_getD_getElem?, Array.getElem?_append]
  by_cases h5 : t = 5
  · subst h5; simp
  rw [if_neg h5]
  by_cases h0 : t = 0
  · subst h0; simp
  by_cases h1 : t = 1
  · subst h1; simp
  rw [if_neg (by simp; omega), List.getElem?_eq_none (by simp; omega), Array.getElem?_setIfInBounds, if_neg (by simp; omega), Array.getElem?_replicate]
  by_cases h : t - (#[p, e] : Array Value).size < 12
  · rw [if_pos h]; rfl
  · rw [if_neg h]
theorem catch_fault (pb eb : Nat) (f : Addr) (w : World) (c0 c1 c2 c3 c4 : Value) (x : Value) (hp : w.heap[pb]? = some (.cells #[c0, c1, c2, c3, c4] 29 (0, 0))) (he : w.heap[eb]? = some (.cells #[x] 36 (0, 0))) (hne : pb ≠ eb) :
    CallsD Tryz.prog 21 #[.pointer (some ⟨pb, 0, none⟩), .pointer (some ⟨eb, 0, none⟩)] (.panicking [{ v := .iface 61 (.pointer (some f)), recovered := false }]) w fun ev u' w' =>
      ev = .returned (.tuple #[]) ∧ u' = .panicking [{ v := .iface 61 (.pointer (some f)), recovered := true }] ∧ w'.heap[pb]? = some (.cells #[.int .i8 0, .int .i8 0, .int .u64 0, .slice none 0 0, .slice none 0 0] 29 (0, 0)) ∧ w'.heap[eb]? = some (.cells #[.iface 61 (.pointer (some f))] 36 (0, 0)) ∧ Chg (fun k => k = pb ∨ k = eb) w w' := by
  have hta : ∀ w, (Instr.typeAssert (.iface 61 (.pointer (some f))) 20 61 true).run Tryz.prog w = .ok (.tuple #[.pointer (some f), .bool true]) w := fun w => by rfl
  refine callsD_of_wpS Tryz.func21 rfl fun c₀ cs hu => ?_
  apply wpS_seq
  apply wpS_region
  simp [wpOpsS, go_sem, recoverD, hu, Tryz.ntmps21, Exit.thenS]
  refine wpS_of_wp ?_
  have hK : F21b (some ⟨pb, 0, none⟩) (some ⟨eb, 0, none⟩) (.iface 61 (.pointer (some f))) w (fun e r D w' => e = .normal ∧ D = [] ∧ w'.heap[pb]? = some (.cells #[.int .i8 0, .int .i8 0, .int .u64 0, .slice none 0 0, .slice none 0 0] 29 (0, 0)) ∧ w'.heap[eb]? = some (.cells #[.iface 61 (.pointer (some f))] 36 (0, 0)) ∧ Chg (fun k => k = pb ∨ k = eb) w w') := by
    delta F21b
    refine ⟨.inr ⟨_, _, rfl⟩, ?_⟩
    rw [if_neg (by simp [isNilI])]
    unfold runV
    rw [hta]
    refine ⟨_, rfl, _, _, rfl, _, rfl, _, _, rfl, _, rfl, rfl, ?_⟩
    rw [if_pos rfl]
    refine some_w ?_
    refine (sets_blk (vs := [.int .i8 0, .int .i8 0, .int .u64 0, .slice none 0 0, .slice none 0 0]) hp rfl (by simp [oneC]) fun w1 b1 c1 z1 => ?_ : setsW _ _ _ _ _)
    refine (setW_blk (i := 0) (v := .iface 61 (.pointer (some f))) (c1.blk he fun e => hne e.symm) (by simp) rfl fun w2 b2 c2 z2 => ?_ : setW _ _ _ _)
    exact ⟨rfl, rfl, c2.blk b1 hne, by simpa using b2, (c1.mono fun k _ e => .inl e).trans (c2.mono fun k _ e => .inr e)⟩
  rw [F21b_eq] at hK
  refine cwp_ok (n := Tryz.f21.ntmps) mixed code21b [] _ [] _ w _ _ (fun _ => True) F21b_ok (fun _ _ _ _ _ => trivial) ?_ trivial hK ?_ ?_ (fun t ht => by rw [show drawn code21b = [] by kernel_rfl] at ht; cases ht)
  · exact ⟨by simp, act14 _ _ _, rfl⟩
  · rintro e r' D' w' a' _ _ ⟨rfl, rfl, h1, h2, h3⟩ hr _
    cases c₀
    simp_all [bodyPostS, results, Tryz.results21]
    exact hr.defers
  · rintro ch rr r' D' w' a' ⟨h, _⟩ _ _ _
    cases h
end Go.Proofs.YtpolbdakhfcilaaGreatDoor.B
