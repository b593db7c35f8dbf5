/-
  scan: the document's pairs, decimal, closed.
-/
import Derived.Test.YthifnahfcbgnoaaDoorScI
set_option maxRecDepth 100000
set_option linter.unusedVariables false
set_option linter.unusedSimpArgs false
namespace Go.Proofs.YthifnahfcbgnoaaDoor.B
open Go Go.Proofs Go.Proofs.YthifnahfcbgnoaaDoorEng Go.RowKit

abbrev W39 : Obj := .cells #[.int .i8 0, .string ⟨#[]⟩, .int .u64 0, .int .i64 0] 39
abbrev F29o : Obj := .cells #[.int .i64 0, .int .i64 0, .string ⟨#[]⟩] 29
/-- the two results' own cells -/
def Two (w : World) (p q : Nat) : Prop := (∃ c0 c1 c2 c3, w.heap[p]? = some (.cells #[c0, c1, c2, c3] 39 (0, 0))) ∧ (∃ d0 d1 d2, w.heap[q]? = some (.cells #[d0, d1, d2] 29 (0, 0))) ∧ p ≠ q
theorem Two.chg {w w' : World} {p q : Nat} (h : Two w p q) (hc : Chg NoS w w') : Two w' p q := by
  obtain ⟨⟨c0, c1, c2, c3, h1⟩, ⟨d0, d1, d2, h2⟩, h3⟩ := h
  exact ⟨⟨c0, c1, c2, c3, hc.blk h1 fun x => x⟩, ⟨d0, d1, d2, hc.blk h2 fun x => x⟩, h3⟩
theorem two_new (w : World) : Two ((w.alloc W39).alloc F29o) w.heap.size (w.alloc W39).heap.size ∧ Chg NoS w ((w.alloc W39).alloc F29o) :=
  ⟨⟨⟨_, _, _, _, (chg_alloc (w.alloc W39) F29o NoS).blk (blk_alloc w W39) fun x => x⟩, ⟨_, _, _, blk_alloc _ _⟩, by rw [size_alloc]; omega⟩, (chg_alloc _ _ _).trans (chg_alloc _ _ _)⟩
theorem ret2 {w : World} {p q : Nat} (h2 : Two w p q) {a n z e f : Int} {s u : ByteArray} {R : Value → World → Prop} (h : ∀ w', Chg (fun b => b = p ∨ b = q) w w' → R (.tuple #[.agg #[.int .i8 a, .string s, .int .u64 n, .int .i64 z], .agg #[.int .i64 e, .int .i64 f, .string u]]) w') :
    setW w (addK ⟨p, 0, none⟩ 0) (.int .i8 a) fun w => setW w (addK ⟨p, 0, none⟩ 1) (.string s) fun w => setW w (addK ⟨p, 0, none⟩ 2) (.int .u64 n) fun w => setW w (addK ⟨p, 0, none⟩ 3) (.int .i64 z) fun w =>
      setW w (addK ⟨q, 0, none⟩ 0) (.int .i64 e) fun w => setW w (addK ⟨q, 0, none⟩ 1) (.int .i64 f) fun w => setW w (addK ⟨q, 0, none⟩ 2) (.string u) fun w =>
        ∃ x : Int, w.cell? (addK ⟨p, 0, none⟩ 0) = some (.int .i8 x) ∧ ∃ s : ByteArray, w.cell? (addK ⟨p, 0, none⟩ 1) = some (.string s) ∧ ∃ x1 : Int, w.cell? (addK ⟨p, 0, none⟩ 2) = some (.int .u64 x1) ∧ ∃ x2 : Int, w.cell? (addK ⟨p, 0, none⟩ 3) = some (.int .i64 x2) ∧
          ∃ x3 : Int, w.cell? (addK ⟨q, 0, none⟩ 0) = some (.int .i64 x3) ∧ ∃ x4 : Int, w.cell? (addK ⟨q, 0, none⟩ 1) = some (.int .i64 x4) ∧ ∃ s1 : ByteArray, w.cell? (addK ⟨q, 0, none⟩ 2) = some (.string s1) ∧ R (.tuple #[.agg #[.int .i8 x, .string s, .int .u64 x1, .int .i64 x2], .agg #[.int .i64 x3, .int .i64 x4, .string s1]]) w := by
  obtain ⟨⟨c0, c1, c2, c3, hp⟩, ⟨d0, d1, d2, hq⟩, hpq⟩ := h2
  refine (sets_blk (b := p) (t := 39) (cs := #[c0, c1, c2, c3]) (vs := [.int .i8 a, .string s, .int .u64 n, .int .i64 z]) hp rfl (by simp [oneC]) fun w1 b1 cc1 z1 => ?_ : setsW _ _ _ _ _)
  have hq1 := cc1.blk hq (fun e => hpq e.symm)
  refine (sets_blk (b := q) (t := 29) (cs := #[d0, d1, d2]) (vs := [.int .i64 e, .int .i64 f, .string u]) hq1 rfl (by simp [oneC]) fun w2 b2 cc2 z2 => ?_ : setsW _ _ _ _ _)
  have hp2 := cc2.blk b1 hpq
  have l : ∀ (j : Nat) v, (#[.int .i8 a, .string s, .int .u64 n, .int .i64 z] : Array Value)[j]? = some v → w2.cell? (addK ⟨p, 0, none⟩ j) = some v := fun j v hv => by rw [addK_lit, Nat.zero_add, cell_blk hp2]; exact hv
  have m : ∀ (j : Nat) v, (#[.int .i64 e, .int .i64 f, .string u] : Array Value)[j]? = some v → w2.cell? (addK ⟨q, 0, none⟩ j) = some v := fun j v hv => by rw [addK_lit, Nat.zero_add, cell_blk b2]; exact hv
  refine ⟨_, l 0 _ rfl, _, l 1 _ rfl, _, l 2 _ rfl, _, l 3 _ rfl, _, m 0 _ rfl, _, m 1 _ rfl, _, m 2 _ rfl, h w2 ?_⟩
  exact (cc1.mono fun b _ hb => .inl hb).trans (cc2.mono fun b _ hb => .inr hb)
/-- what the document's functions answer -/
def docV (t : List UInt8) (k : Nat) : One → Value
  | .ok kd e m => .tuple #[.agg #[.int .i8 (kd : Int), .string (bs (cut t k e)), .int .u64 (m : Int), .int .i64 (k : Int)], .agg #[.int .i64 0, .int .i64 0, .string ⟨#[]⟩]]
  | .bad code e => .tuple #[.agg #[.int .i8 0, .string ⟨#[]⟩, .int .u64 0, .int .i64 0], .agg #[.int .i64 (code : Int), .int .i64 (k : Int), .string (bs (cut t k e))]]
abbrev DocR (t : List UInt8) (k : Nat) (o : One) (w : World) : Value → World → Prop := fun v w' => v = docV t k o ∧ Chg NoS w w'
theorem doc_ok {w0 w : World} {p q k : Nat} {t : List UInt8} {kd e m : Nat} (h : Two w p q) (hp : w0.heap.size ≤ p) (hq : w0.heap.size ≤ q) (hc : Chg NoS w0 w) {o : One} (ho : o = .ok kd e m) : ∀ w', Chg (fun b => b = p ∨ b = q) w w' → DocR t k o w0 (.tuple #[.agg #[.int .i8 (kd : Int), .string (bs (cut t k e)), .int .u64 (m : Int), .int .i64 (k : Int)], .agg #[.int .i64 0, .int .i64 0, .string ⟨#[]⟩]]) w' := fun w' hc' => by
  subst ho
  exact ⟨rfl, hc.trans2 hc' fun b hb hx => by rcases hx with rfl | rfl <;> omega⟩
theorem doc_bad {w0 w : World} {p q k : Nat} {t : List UInt8} {code e : Nat} (h : Two w p q) (hp : w0.heap.size ≤ p) (hq : w0.heap.size ≤ q) (hc : Chg NoS w0 w) {o : One} (ho : o = .bad code e) : ∀ w', Chg (fun b => b = p ∨ b = q) w w' → DocR t k o w0 (.tuple #[.agg #[.int .i8 0, .string ⟨#[]⟩, .int .u64 0, .int .i64 0], .agg #[.int .i64 (code : Int), .int .i64 (k : Int), .string (bs (cut t k e))]]) w' := fun w' hc' => by
  subst ho
  exact ⟨rfl, hc.trans2 hc' fun b hb hx => by rcases hx with rfl | rfl <;> omega⟩

theorem rclosed_ok (w : World) (t : List UInt8) (k e m : Nat) (hk : k ≤ e) (he : e ≤ t.length) : Calls Tryd.prog 44 #[.string (bs t), .int .i64 (k : Int), .int .i64 (e : Int), .int .u64 (m : Int), .string (bs (cut t k e))] w (endW (DocR t k (closedAt t e m) w) (fun _ _ => False)) := by
  refine F44_calls _ _ _ _ _ ?_
  delta F44
  obtain ⟨h2, hc⟩ := two_new w
  have hs : w.heap.size ≤ (w.alloc W39).heap.size := by rw [size_alloc]; omega
  have bad : (e < t.length ∧ isAl (g t e) = true) → closedAt t e m = .bad 150 e := fun h => by unfold closedAt; rw [if_pos h]
  have good_ : ¬ (e < t.length ∧ isAl (g t e) = true) → closedAt t e m = .ok 2 e m := fun h => by unfold closedAt; rw [if_neg h]
  rw [bs_size, Int.toNat_natCast, Int.toNat_natCast, ext_cut]
  by_cases hl : e < t.length
  · rw [if_pos (by simp; omega)]
    refine ⟨by omega, by omega, ?_⟩
    rw [g_at]
    refine Calls.then (rletter_ok ((w.alloc W39).alloc F29o) _) ?_
    rintro v w1 ⟨rfl, rfl⟩
    refine ⟨_, rfl, ?_⟩
    refine ite_both (fun hx => ?_) (fun hx => ?_)
    · refine ⟨by omega, by omega, ?_⟩
      refine Calls.then (rdigit_ok ((w.alloc W39).alloc F29o) _) ?_
      rintro v w1 ⟨rfl, rfl⟩
      refine ⟨_, rfl, ?_⟩
      refine ite_both (fun hy => ?_) (fun hy => ?_)
      · exact ret2 h2 (doc_bad h2 (Nat.le_refl _) hs hc (bad ⟨hl, by simp [isAl, hy]⟩))
      · exact ⟨by omega, by omega, by omega, by omega, ret2 h2 (doc_ok h2 (Nat.le_refl _) hs hc (good_ fun hh => by have := hh.2; simp [isAl, hx] at this; exact hy this))⟩
    · exact ret2 h2 (doc_bad h2 (Nat.le_refl _) hs hc (bad ⟨hl, by simp at hx; simp [isAl, hx]⟩))
  · rw [if_neg (by simp; omega)]
    exact ⟨by omega, by omega, by omega, by omega, ret2 h2 (doc_ok h2 (Nat.le_refl _) hs hc (good_ fun hh => hl hh.1))⟩

theorem decimal_ok (w : World) (l : List UInt8) (hl : ∀ j, j < l.length → isDig (g l j) = true) (hlen : l.length ≤ 65536) :
    Calls Tryd.prog 47 #[.string (bs l)] w (endW (fun v w' => v = (if vals 10 l ≤ 18446744073709551615 then .tuple #[.int .u64 (vals 10 l : Nat), .bool true] else .tuple #[.int .u64 0, .bool false]) ∧ w' = w) (fun _ _ => False)) := by
  refine F47_calls _ ?_
  delta F47
  refine ⟨fun s w' => ∃ i n : Nat, s = ((n : Int), (i : Int)) ∧ i ≤ l.length ∧ n = vals 10 (l.take i) ∧ n ≤ 18446744073709551615 ∧ w' = w, fun s _ => (l.length - s.2).toNat, ⟨(0, 0), ⟨rfl, rfl, trivial⟩, 0, 0, rfl, by omega, by simp [vals], by omega, rfl⟩, ?_⟩
  rintro _ w1 ⟨i, n, rfl, hi, hn, hmax, rfl⟩ _
  dsimp only
  rw [bs_size]
  by_cases hlt : i < l.length
  · rw [if_pos (by simp; omega)]
    refine ⟨by omega, by omega, by omega, ?_⟩
    have hd := hl i hlt
    rw [g_at]
    have htk := vals_take (b := 10) hlt
    have hle := vals_le (b := 10) (by omega) l (i + 1)
    rw [htk, ← hn] at hle
    rw [← hn] at htk
    generalize g l i = c at hd hle htk ⊢
    simp only [isDig, decide_eq_true_eq] at hd
    have hhv : hv c = c - 48 := by unfold hv; rw [if_pos hd]
    rw [hhv] at hle htk
    have e1 : IntKind.wrap .u64 (IntKind.wrap .u8 ((c : Int) - 48)) = ((c - 48 : Nat) : Int) := by rw [IntWalk.u8_in _ (by omega), wrap_u64]; omega
    rw [e1]
    generalize hdd : c - 48 = d at hle htk ⊢
    have hd10 : d < 10 := by omega
    have e2 : IntKind.wrap .u64 (Int.tdiv (IntKind.wrap .u64 (18446744073709551615 - (d : Int))) 10) = (((18446744073709551615 - d) / 10 : Nat) : Int) := by
      rw [wrap_u64 (18446744073709551615 - (d : Int)), Int.tdiv_eq_ediv_of_nonneg (by omega), wrap_u64]
      omega
    rw [e2]
    by_cases ho : n * 10 + d ≤ 18446744073709551615
    · rw [if_neg (by simp; omega)]
      refine ⟨(((n * 10 + d : Nat) : Int), ((i + 1 : Nat) : Int)), ⟨?_, by rw [i64w _ (by omega) (by omega)]; rfl, trivial⟩, ⟨i + 1, n * 10 + d, rfl, by omega, htk.symm, ho, rfl⟩, by dsimp only; omega⟩
      rw [wrap_u64 ((n : Int) * 10), wrap_u64]
      congr 1
      omega
    · rw [if_pos (by simp; omega), if_neg (by omega)]
      exact ⟨rfl, rfl⟩
  · rw [if_neg (by simp; omega)]
    have : i = l.length := by omega
    subst this
    rw [List.take_length] at hn
    subst hn
    rw [if_pos hmax]
    exact ⟨rfl, rfl⟩
end Go.Proofs.YthifnahfcbgnoaaDoor.B
