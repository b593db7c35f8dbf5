/-
  header: the four calls that wake the rest; the headers by hand.
-/
import Derived.Test.YtjbgckpalaodaaaDoorHdH
set_option maxRecDepth 100000
set_option linter.unusedVariables false
set_option linter.unusedSimpArgs false
namespace Go.Proofs.YtjbgckpalaodaaaDoor.B
open Go Go.Proofs Go.Proofs.YtjbgckpalaodaaaDoorEng Go.RowKit

def lst (l : List Nat) : HN := fun k => l.getD k 0
def hw : HN := lst [1, 0, 2048, 0, 167772161, 0, 6, 0, 80, 3, 0]
def hz : HN := lst []
theorem okH_of {h : HN} (h0 : h 0 < 2 ^ 48) (h1 : h 1 < 2 ^ 48) (h2 : h 2 < 2 ^ 16) (h3 : h 3 < 2 ^ 12) (h4 : h 4 < 2 ^ 32) (h5 : h 5 < 2 ^ 32) (h6 : h 6 < 2 ^ 8) (h7 : h 7 < 2 ^ 16) (h8 : h 8 < 2 ^ 16) (h9 : h 9 < 2 ^ 16) (h10 : h 10 < 2 ^ 16)
    (g : h 2 ≠ 33024 ∧ ¬ h 2 < 1536 ∧ (h 2 = 2048 ∨ h 6 = 0) ∧ (h 2 = 2048 ∨ h 2 = 2054 ∨ (h 4 = 0 ∧ h 5 = 0)) ∧ ((h 2 = 2048 ∧ (h 6 = 6 ∨ h 6 = 17)) ∨ (h 7 = 0 ∧ h 8 = 0))) : okH h :=
  ⟨fun f hf => match f, hf with
    | 0, _ => h0 | 1, _ => h1 | 2, _ => h2 | 3, _ => h3 | 4, _ => h4 | 5, _ => h5 | 6, _ => h6 | 7, _ => h7 | 8, _ => h8 | 9, _ => h9 | 10, _ => h10
    | k + 11, hk => by omega, g⟩
theorem hw_ok : okH hw := okH_of (by decide) (by decide) (by decide) (by decide) (by decide) (by decide) (by decide) (by decide) (by decide) (by decide) (by decide) (by decide)
theorem hz_no : ¬ okH hz := fun h => h.2.2.1 (by decide)
def wakeTxt : List UInt8 := [115, 114, 99, 61, 48, 48, 58, 48, 48, 58, 48, 48, 58, 48, 48, 58, 48, 48, 58, 48, 49, 32, 107, 105, 110, 100, 61, 48, 120, 48, 56, 48, 48, 32, 102, 114, 111, 109, 61, 49, 48, 46, 48, 46, 48, 46, 49, 32, 112, 114, 111, 116, 111, 61, 54, 32, 100, 112, 111, 114, 116, 61, 56, 48, 32, 112, 111, 114, 116, 61, 51]
theorem hw_has : (List.range 11).filter (has hw) = [0, 2, 4, 6, 8, 9] := by decide
theorem hw_text : text hw = wakeTxt := by
  unfold text
  rw [if_pos hw_ok]
  unfold parts
  rw [hw_has]
  have p0 : part hw 0 = [115, 114, 99, 61, 48, 48, 58, 48, 48, 58, 48, 48, 58, 48, 48, 58, 48, 48, 58, 48, 49] := by decide
  have p2 : part hw 2 = [107, 105, 110, 100, 61, 48, 120, 48, 56, 48, 48] := by decide
  have d10 : Lib.decDigits 10 = [49, 48] := Lib.decDigits_two (by decide) (by decide)
  have d0 : Lib.decDigits 0 = [48] := Lib.decDigits_one (by decide)
  have d1 : Lib.decDigits 1 = [49] := Lib.decDigits_one (by decide)
  have d6 : Lib.decDigits 6 = [54] := Lib.decDigits_one (by decide)
  have d3 : Lib.decDigits 3 = [51] := Lib.decDigits_one (by decide)
  have d80 : Lib.decDigits 80 = [56, 48] := Lib.decDigits_two (by decide) (by decide)
  have p4 : part hw 4 = [102, 114, 111, 109, 61, 49, 48, 46, 48, 46, 48, 46, 49] := by
    show [102, 114, 111, 109] ++ [61] ++ Lib.join [Lib.decDigits 10, Lib.decDigits 0, Lib.decDigits 0, Lib.decDigits 1] [46] = _
    rw [d10, d0, d1]
    rfl
  have p6 : part hw 6 = [112, 114, 111, 116, 111, 61, 54] := by
    show [112, 114, 111, 116, 111] ++ [61] ++ Lib.decDigits 6 = _
    rw [d6]; rfl
  have p8 : part hw 8 = [100, 112, 111, 114, 116, 61, 56, 48] := by
    show [100, 112, 111, 114, 116] ++ [61] ++ Lib.decDigits 80 = _
    rw [d80]; rfl
  have p9 : part hw 9 = [112, 111, 114, 116, 61, 51] := by
    show [112, 111, 114, 116] ++ [61] ++ Lib.decDigits 3 = _
    rw [d3]; rfl
  simp only [List.map_cons, List.map_nil, p0, p2, p4, p6, p8, p9]
  rfl
theorem hcell {w' : World} {p : Nat} {h : HN} {fr : Nat × Nat} (hb : w'.heap[p]? = some (.cells (hvs h) 24 fr)) (k : Nat) (hk : k < 11) : w'.cell? (addK ⟨p, 0, none⟩ k) = some (.int .u64 (h k)) := by
  rw [addK_lit, Nat.zero_add, cell_blk hb]
  exact hvs_at h k hk
theorem wakes_ok (w : World) (hT : Tab w) : Calls Tryd.prog 14 #[] w (endW (fun v w' => v = .bool true ∧ Chg NoS w w') (fun _ _ => False)) := by
  refine F14_calls ?_
  delta F14
  refine (sets_blk (b := w.heap.size) (t := 24) (cs := #[.int .u64 0, .int .u64 0, .int .u64 0, .int .u64 0, .int .u64 0, .int .u64 0, .int .u64 0, .int .u64 0, .int .u64 0, .int .u64 0, .int .u64 0]) (vs := [.int .u64 1, .int .u64 0, .int .u64 2048, .int .u64 0, .int .u64 167772161, .int .u64 0, .int .u64 6, .int .u64 0, .int .u64 80, .int .u64 3, .int .u64 0]) (blk_alloc w _) rfl (by simp [oneC]) fun w1 b1 c1 z1 => ?_ : setsW _ _ _ _ _)
  have hc1 : Chg NoS w w1 := (chg_alloc w _ _).trans2 c1 fun k hk e => by
    have : k = w.heap.size := e
    omega
  have bh : w1.heap[w.heap.size]? = some (.cells (hvs hw) 24 (0, 0)) := b1
  have cl := hcell bh
  refine ⟨_, cl 0 (by omega), _, cl 1 (by omega), _, cl 2 (by omega), _, cl 3 (by omega), _, cl 4 (by omega), _, cl 5 (by omega), _, cl 6 (by omega), _, cl 7 (by omega), _, cl 8 (by omega), _, cl 9 (by omega), _, cl 10 (by omega), ?_⟩
  refine Calls.then (Check_ok w1 hw) ?_
  rintro v w2 ⟨rfl, hc2⟩
  refine ⟨_, rfl, ?_⟩
  rw [okH_yes hw_ok, if_pos (by decide)]
  have cl2 := hcell (hc2.blk bh fun x => x)
  refine ⟨_, cl2 0 (by omega), _, cl2 1 (by omega), _, cl2 2 (by omega), _, cl2 3 (by omega), _, cl2 4 (by omega), _, cl2 5 (by omega), _, cl2 6 (by omega), _, cl2 7 (by omega), _, cl2 8 (by omega), _, cl2 9 (by omega), _, cl2 10 (by omega), ?_⟩
  have hc12 := hc1.trans hc2
  refine Calls.then (Text_ok w2 hw (hT.chg hc12)) ?_
  rintro v w3 ⟨rfl, hc3⟩
  refine ⟨_, rfl, ?_⟩
  rw [hw_text]
  refine if_pos ?_ ▸ ?_
  · exact beq_iff_eq.2 rfl
  refine Calls.then (Width_ok w3 3) ?_
  rintro v w4 ⟨rfl, hc4⟩
  refine ⟨_, rfl, ?_⟩
  rw [if_pos (by decide)]
  refine Calls.then (Check_ok w4 hz) ?_
  rintro v w5 ⟨rfl, hc5⟩
  refine ⟨_, rfl, ?_⟩
  rw [okH_no hz_no]
  exact ⟨rfl, ((hc12.trans hc3).trans hc4).trans hc5⟩
end Go.Proofs.YtjbgckpalaodaaaDoor.B
