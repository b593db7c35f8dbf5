/-
  parse: what an answer of Policy says in memory; the walks' last steps.
-/
import Derived.Test.YtgoanblnkdihfaaDoorPaSW
import Derived.Test.YtgoanblnkdihfaaDoorPaR
set_option maxRecDepth 100000
set_option linter.unusedVariables false
set_option linter.unusedSimpArgs false
namespace Go.Proofs.YtgoanblnkdihfaaDoor.B
open Go Go.Proofs Go.Proofs.YtgoanblnkdihfaaDoorEng Go.RowKit

/-- what stands in an answer of Policy -/
def Inf (o : Fo) (w : World) (u : V4) (qa : Option Addr) (n : Nat) (e : Value) : Prop := match o with
  | .ok main qs => e = .nilIface ∧ u.is w main ∧ QsAt w (bsQ qs) qa ∧ n = qs.length ∧ qs.length ≤ 70000
  | .fault code pos txt => ∃ p, e = .iface 48 (.pointer (some ⟨p, 0, none⟩)) ∧ w.heap[p]? = some (.cells #[.int .i64 (code : Int), .int .i64 (pos : Int), .string (bs txt)] 62 (0, 0))
theorem RetF.inf {w w' : World} {o : Fo} {v : Value} (h : RetF w o v w') : Chg NoS w w' ∧ ∃ u qa n c e, v = .tuple #[.agg (parr u qa n c), e] ∧ Inf o w' u qa n e := by
  obtain ⟨hc, h⟩ := h
  refine ⟨hc, ?_⟩
  cases o with
  | ok main qs =>
    obtain ⟨u, qa, c, rfl, h1, h2, h3⟩ := h
    exact ⟨u, qa, _, c, _, rfl, rfl, h1, h2, rfl, h3⟩
  | fault code pos txt =>
    obtain ⟨p, rfl, _, h2⟩ := h
    exact ⟨⟨0, 0, 0, none, 0, 0⟩, none, 0, 0, _, rfl, p, rfl, h2⟩
def Dp (e : Value) (w : World) : Prop := e = .nilIface ∨ ∃ (p pos : Nat) (txt : List UInt8), e = .iface 48 (.pointer (some ⟨p, 0, none⟩)) ∧ w.heap[p]? = some (.cells #[.int .i64 200, .int .i64 (pos : Int), .string (bs txt)] 62 (0, 0))
theorem Dp.chg {e : Value} {w w' : World} (h : Dp e w) (hc : Chg NoS w w') : Dp e w' := by
  rcases h with h | ⟨p, pos, txt, h1, h2⟩
  · exact .inl h
  · exact .inr ⟨p, pos, txt, h1, hc.blk h2 fun x => x⟩
theorem Inf.dp {p : Tm} {w : World} {u : V4} {qa : Option Addr} {n : Nat} {e : Value} (h : Inf (endO p) w u qa n e) : Dp e w := by
  unfold endO at h
  by_cases hs : smallS [p] = true
  · rw [if_pos hs] at h; exact .inl h.1
  · rw [if_neg hs] at h
    obtain ⟨q, h1, h2⟩ := h
    exact .inr ⟨q, 0, [], h1, h2⟩
theorem Inf.shape {o : Fo} {w : World} {u : V4} {qa : Option Addr} {n : Nat} {e : Value} (h : Inf o w u qa n e) : e = .nilIface ∨ ∃ t z, e = .iface t z := by
  cases o with
  | ok main qs => exact .inl h.1
  | fault code pos txt => obtain ⟨p, h1, _⟩ := h; exact .inr ⟨_, _, h1⟩
theorem wake2 {w wx : World} (hL : Libs w) (hc : Chg NoS w wx) : Calls Tryd.prog 4 #[] wx (endW (fun v w' => ∃ b, v = .bool b ∧ (Value.bool b = .bool true ∧ Chg NoS w w')) (fun _ _ => False)) :=
  Calls.then (wakes_ok wx (hL.chg hc)) fun v w' h => ⟨true, h.1, rfl, hc.trans h.2⟩
theorem wakeK {w wx : World} (hL : Libs w) (hc : Chg NoS w wx) : Calls Tryd.prog 4 #[] wx (endW (fun v w' => ∃ b, v = .bool b ∧ Kept NoS wx w' ∧ (Value.bool b = .bool true ∧ Chg NoS w w')) (fun _ _ => False)) :=
  Calls.then (wakes_ok wx (hL.chg hc)) fun v w' h => ⟨true, h.1, kept_of_ h.2, rfl, hc.trans h.2⟩
abbrev vs5 (u : V4) (qa : Option Addr) (n k : Nat) : List Value := [.int .i8 u.op, .int .i8 u.f, .int .u64 u.n, .slice u.b u.m u.c, .slice qa n k]
abbrev zs5 : List Value := [.int .i8 0, .int .i8 0, .int .u64 0, .slice none 0 0, .slice none 0 0]
theorem ld5 {w0 wx : World} {g : Nat} {vs : List Value} {t : TypeId} (b : w0.heap[g]? = some (.cells vs.toArray t (0, 0))) (hc : Chg NoS w0 wx) (k : Nat) (v : Value) (hv : vs[k]? = some v) : wx.cell? (addK ⟨g, 0, none⟩ k) = some v := get_blk (hc.blk b fun x => x) k v hv

end Go.Proofs.YtgoanblnkdihfaaDoor.B
