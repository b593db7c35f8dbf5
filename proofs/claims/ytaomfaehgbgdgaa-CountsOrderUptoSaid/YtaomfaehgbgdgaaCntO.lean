/-
  Counts: the law CountsNil.
-/
import Derived.Test.YtaomfaehgbgdgaaCntN
import Derived.Test.YtaomfaehgbgdgaaBC
set_option maxRecDepth 100000
set_option linter.unusedVariables false
set_option linter.unusedSimpArgs false
namespace Go.Proofs.Ytaomfaehgbgdgaa.B
open Go Go.Proofs Go.Proofs.YtaomfaehgbgdgaaEng

theorem Policy_nil (w : World) (v : Int) (a : Option Addr) (n c : Nat) : Calls Try.prog 6 #[.pointer none, .int .i64 v, .slice a n c] w (endW (fun r w' => w' = w) (fun _ _ => False)) := by
  refine F6_calls none v a n c ?_
  delta F6
  refine ⟨fun _ _ => False, fun _ _ h => h.elim, ?_⟩
  rw [if_neg (by simp)]
theorem Stated_nil (w : World) (v : Int) (a : Option Addr) (n c : Nat) : Calls Try.prog 8 #[.pointer none, .int .u16 v, .slice a n c] w (endW (fun r w' => w' = w) (fun _ _ => False)) := by
  refine F8_calls none v a n c ?_
  delta F8
  rw [if_pos (by simp)]
theorem Gone_nil (w : World) (v : Int) (a : Option Addr) (n c : Nat) : Calls Try.prog 9 #[.pointer none, .int .u16 v, .slice a n c] w (endW (fun r w' => w' = w) (fun _ _ => False)) := by
  refine F9_calls none v a n c ?_
  delta F9
  rw [if_pos (by simp)]
theorem Reset_nil (w : World) (v : Int) : Calls Try.prog 10 #[.pointer none, .int .u16 v] w (endW (fun r w' => w' = w) (fun _ _ => False)) := by
  refine F10_calls none v ?_
  delta F10
  rw [if_pos (by simp)]
theorem Read_nil (w : World) (s : ByteArray) : Calls Try.prog 11 #[.pointer none, .string s] w (endW (fun r w' => r = .tuple #[.int .u64 0, .bool false] ∧ w' = w) (fun _ _ => False)) := by
  refine F11_calls none s ?_
  delta F11
  rw [if_pos (by simp)]
  exact ⟨rfl, rfl⟩
theorem CountsNil_walk (cs0 : Array Value) (w : World) (i0 : Is 1048576 Try.prog w 12 26 cs0.toList) :
    Calls Try.prog 3 #[.agg cs0] w (endW (fun v w' => v = .bool true ∧ Chg NoS w w') (fun _ _ => False)) := by
  obtain ⟨x0, x1, a2, n2, c2, x3, a4, n4, c4, s5, e, r0, r1, r2, r3, r4, r5⟩ := shape26 (n := 10) i0
  obtain ⟨l, hl, hlc, hcb, hr, _⟩ := names_in (n := 9) r2
  obtain rfl : cs0 = #[.int .i64 x0, .int .i64 x1, .slice a2 n2 c2, .int .u16 x3, .slice a4 n4 c4, .string s5] := by
    apply Array.toList_inj.1
    exact e
  refine F3_calls x0 x1 a2 n2 c2 x3 a4 n4 c4 s5 ?_
  delta F3
  have c1 := chg_alloc w (.cells #[.int .i64 x0, .int .i64 x1, .slice a2 n2 c2, .int .u16 x3, .slice a4 n4 c4, .string s5] 26) NoS
  have b1 := blk_alloc w (.cells #[.int .i64 x0, .int .i64 x1, .slice a2 n2 c2, .int .u16 x3, .slice a4 n4 c4, .string s5] 26)
  generalize w.alloc (.cells #[.int .i64 x0, .int .i64 x1, .slice a2 n2 c2, .int .u16 x3, .slice a4 n4 c4, .string s5] 26) = w1 at *
  have cd := chg_drew w1 NoS
  have bd := cd.blk b1 (fun x => x)
  have c02 := c1.trans cd
  generalize w1.drew = w2 at *
  have rd : ∀ {w' : World} (i : Nat), w'.heap[w.heap.size]? = some (.cells #[.int .i64 x0, .int .i64 x1, .slice a2 n2 c2, .int .u16 x3, .slice a4 n4 c4, .string s5] 26 (0, 0)) → w'.cell? (addK ⟨w.heap.size, 0, none⟩ i) = #[Value.int .i64 x0, .int .i64 x1, .slice a2 n2 c2, .int .u16 x3, .slice a4 n4 c4, .string s5][i]? := fun i hh => by rw [addK_lit, cell_blk hh, Nat.zero_add]
  refine ⟨NoS, fun x => x, _, (rd 1 bd).trans rfl, fun x => x, _, _, _, (rd 2 bd).trans rfl, ?_⟩
  refine Calls.then (Queries_ok (hr.chg c02 fun _ _ x => x) hl (by omega)) ?_
  rintro v w3 ⟨a', c', rfl, _, c3⟩
  refine ⟨_, _, _, rfl, keptN c3, ?_⟩
  have b3 := c3.blk bd (fun x => x)
  refine Calls.then (Policy_nil w3 x1 a' n2 c') ?_
  rintro v w4 rfl
  refine ⟨_, (rd 3 b3).trans rfl, _, _, _, (rd 4 b3).trans rfl, ?_⟩
  refine Calls.then (Stated_nil w4 x3 a4 n4 c4) ?_
  rintro v w5 rfl
  refine ⟨_, (rd 3 b3).trans rfl, _, _, _, (rd 4 b3).trans rfl, ?_⟩
  refine Calls.then (Gone_nil w5 x3 a4 n4 c4) ?_
  rintro v w6 rfl
  refine ⟨_, (rd 3 b3).trans rfl, ?_⟩
  refine Calls.then (Reset_nil w6 x3) ?_
  rintro v w7 rfl
  refine ⟨_, (rd 5 b3).trans rfl, ?_⟩
  refine Calls.then (Read_nil w7 s5) ?_
  rintro v w8 ⟨rfl, rfl⟩
  refine aggU ?_
  rw [if_pos (by rfl), if_pos (by rfl)]
  refine Calls.then (Wakes_ok w8) ?_
  rintro v w9 ⟨rfl, c9⟩
  exact ⟨_, rfl, rfl, (c02.trans c3).trans c9⟩
end Go.Proofs.Ytaomfaehgbgdgaa.B
