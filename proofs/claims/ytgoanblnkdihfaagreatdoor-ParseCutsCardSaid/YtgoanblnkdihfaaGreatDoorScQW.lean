import Derived.Test.YtgoanblnkdihfaaGreatDoorScAI
import Derived.Test.YtgoanblnkdihfaaGreatDoorBD
/-
  scan: the document's pairs, decimal, closed.
-/
set_option maxRecDepth 100000
set_option linter.unusedVariables false
set_option linter.unusedSimpArgs false
namespace Go.Proofs.YtgoanblnkdihfaaGreatDoor.B
open Go Go.Proofs Go.Proofs.YtgoanblnkdihfaaGreatDoorEng Go.RowKit

abbrev W39 : Obj := .cells #[.int .i8 0, .string ⟨#[]⟩, .int .u64 0, .int .i64 0] 42
abbrev F29o : Obj := .cells #[.int .i64 0, .int .i64 0, .string ⟨#[]⟩] 38
/-- the two results' own cells -/
def Two (w : World) (p q : Nat) : Prop := (∃ c0 c1 c2 c3, w.heap[p]? = some (.cells #[c0, c1, c2, c3] 42 (0, 0))) ∧ (∃ d0 d1 d2, w.heap[q]? = some (.cells #[d0, d1, d2] 38 (0, 0))) ∧ p ≠ q
theorem Two.chg {w w' : World} {p q : Nat} (h : Two w p q) (hc : Chg NoS w w') : Two w' p q := by
  obtain ⟨⟨c0, c1, c2, c3, h1⟩, ⟨d0, d1, d2, h2⟩, h3⟩ := h
  exact ⟨⟨c0, c1, c2, c3, hc.blk h1 fun x => x⟩, ⟨d0, d1, d2, hc.blk h2 fun x => x⟩, h3⟩
theorem two_new (w : World) : Two ((w.alloc W39).alloc F29o) w.heap.size (w.alloc W39).heap.size ∧ Chg NoS w ((w.alloc W39).alloc F29o) :=
  ⟨⟨⟨_, _, _, _, (chg_alloc (w.alloc W39) F29o NoS).blk (blk_alloc w W39) fun x => x⟩, ⟨_, _, _, blk_alloc _ _⟩, by rw [size_alloc]; omega⟩, (chg_alloc _ _ _).trans (chg_alloc _ _ _)⟩
theorem ret2 {w : World} {p q : Nat} (h2 : Two w p q) {a n z e f : Int} {s u : ByteArray} {R : Value → World → Prop} (h : ∀ w', Chg (fun b => b = p ∨ b = q) w w' → R (.tuple #[.agg #[.int .i8 a, .string s, .int .u64 n, .int .i64 z], .agg #[.int .i64 e, .int .i64 f, .string u]]) w') :
    setW w (addK ⟨p, 0, none⟩ 0) (.int .i8 a) fun w => setW w (addK ⟨p, 0, none⟩ 1) (.string s) fun w => setW w (addK ⟨p, 0, none⟩ 2) (.int .u64 n) fun w => setW w (addK ⟨p, 0, none⟩ 3) (.int .i64 z) fun w =>
      setW w (addK ⟨q, 0, none⟩ 0) (.int .i64 e) fun w => setW w (addK ⟨q, 0, none⟩ 1) (.int .i64 f) fun w => setW w (addK ⟨q, 0, none⟩ 2) (.string u) fun w =>
        ∃ x : Int, w.cell? (addK ⟨p, 0, none⟩ 0) = some (.int .i8 x) ∧ ∃ s : ByteArray, w.cell? (addK ⟨p, 0, none⟩ 1) = some (.string s) ∧ ∃ x1 : Int, w.cell? (addK ⟨p, 0, none⟩ 2) = some (.int .u64 x1) ∧ ∃ x2 : Int, w.cell? (addK ⟨p, 0, none⟩ 3) = some (.int .i64 x2) ∧
          ∃ x3 : Int, w.cell? (addK ⟨q, 0, none⟩ 0) = some (.int .i64 x3) ∧ ∃ x4 : Int, w.cell? (addK ⟨q, 0, none⟩ 1) = some (.int .i64 x4) ∧ ∃ s1 : ByteArray, w.cell? (addK ⟨q, 0, none⟩ 2) = some (.string s1) ∧ R (.tuple #[.agg #[.int .i8 x, .string s, .int .u64 x1, .int .i64 x2], .agg #[.int .i64 x3, .int .i64 x4, .string s1]]) w := by
  obtain ⟨⟨c0, c1, c2, c3, hp⟩, ⟨d0, d1, d2, hq⟩, hpq⟩ := h2
  refine (sets_blk (b := p) (t := 42) (cs := #[c0, c1, c2, c3]) (vs := [.int .i8 a, .string s, .int .u64 n, .int .i64 z]) hp rfl (by simp [oneC]) fun w1 b1 cc1 z1 => ?_ : setsW _ _ _ _ _)
  have hq1 := cc1.blk hq (fun e => hpq e.symm)
  refine (sets_blk (b := q) (t := 38) (cs := #[d0, d1, d2]) (vs := [.int .i64 e, .int .i64 f, .string u]) hq1 rfl (by simp [oneC]) fun w2 b2 cc2 z2 => ?_ : setsW _ _ _ _ _)
  have hp2 := cc2.blk b1 hpq
  have l : ∀ (j : Nat) v, (#[.int .i8 a, .string s, .int .u64 n, .int .i64 z] : Array Value)[j]? = some v → w2.cell? (addK ⟨p, 0, none⟩ j) = some v := fun j v hv => by rw [addK_lit, Nat.zero_add, cell_blk hp2]; exact hv
  have m : ∀ (j : Nat) v, (#[.int .i64 e, .int .i64 f, .string u] : Array Value)[j]? = some v → w2.cell? (addK ⟨q, 0, none⟩ j) = some v := fun j v hv => by rw [addK_lit, Nat.zero_add, cell_blk b2]; exact hv
  refine ⟨_, l 0 _ rfl, _, l 1 _ rfl, _, l 2 _ rfl, _, l 3 _ rfl, _, m 0 _ rfl, _, m 1 _ rfl, _, m 2 _ rfl, h w2 ?_⟩
  exact (cc1.mono fun b _ hb => .inl hb).trans (cc2.mono fun b _ hb => .inr hb)
/-- what the document's functions answer -/
def docV (t : List UInt8) (k : Nat) : One → Value
  | .ok kd e m => .tuple #[.agg #[.int .i8 (kd : Int), .string (bs (cut t k e)), .int .u64 (m : Int), .int .i64 (k : Int)], .agg #[.int .i64 0, .int .i64 0, .string ⟨#[]⟩]]
  | .bad code e => .tuple #[.agg #[.int .i8 0, .string ⟨#[]⟩, .int .u64 0, .int .i64 0], .agg #[.int .i64 (code : Int), .int .i64 (k : Int), .string (bs (cut t k e))]]
abbrev DocR (t : List UInt8) (k : Nat) (o : One) (w : World) : Value → World → Prop := fun v w' => v = docV t k o ∧ Chg NoS w w'
theorem doc_ok {w0 w : World} {p q k : Nat} {t : List UInt8} {kd e m : Nat} (h : Two w p q) (hp : w0.heap.size ≤ p) (hq : w0.heap.size ≤ q) (hc : Chg NoS w0 w) {o : One} (ho : o = .ok kd e m) : ∀ w', Chg (fun b => b = p ∨ b = q) w w' → DocR t k o w0 (.tuple #[.agg #[.int .i8 (kd : Int), .string (bs (cut t k e)), .int .u64 (m : Int), .int .i64 (k : Int)], .agg #[.int .i64 0, .int .i64 0, .string ⟨#[]⟩]]) w' := fun w' hc' => by
  subst ho
  exact ⟨rfl, hc.trans2 hc' fun b hb hx => by rcases hx with rfl | rfl <;> omega⟩
theorem doc_bad {w0 w : World} {p q k : Nat} {t : List UInt8} {code e : Nat} (h : Two w p q) (hp : w0.heap.size ≤ p) (hq : w0.heap.size ≤ q) (hc : Chg NoS w0 w) {o : One} (ho : o = .bad code e) : ∀ w', Chg (fun b => b = p ∨ b = q) w w' → DocR t k o w0 (.tuple #[.agg #[.int .i8 0, .string ⟨#[]⟩, .int .u64 0, .int .i64 0], .agg #[.int .i64 (code : Int), .int .i64 (k : Int), .string (bs (cut t k e))]]) w' := fun w' hc' => by
  subst ho
  exact ⟨rfl, hc.trans2 hc' fun b hb hx => by rcases hx with rfl | rfl <;> omega⟩

theorem rclosed_ok (w : World) (t : List UInt8) (k e m : Nat) (hk : k ≤ e) (he : e ≤ t.length) : Calls Tryz.prog 54 #[.string (bs t), .int .i64 (k : Int), .int .i64 (e : Int), .int .u64 (m : Int), .string (bs (cut t k e))] w (endW (DocR t k (closedAt t e m) w) (fun _ _ => False)) := by
  refine F54_calls _ _ _ _ _ ?_
  delta F54
  obtain ⟨h2, hc⟩ := two_new w
  have hs : w.heap.size ≤ (w.alloc W39).heap.size := by rw [size_alloc]; omega
  have bad : (e < t.length ∧ isAl (g t e) = true) → closedAt t e m = .bad 150 e := fun h => by unfold closedAt; rw [if_pos h]
  have good_ : ¬ (e < t.length ∧ isAl (g t e) = true) → closedAt t e m = .ok 2 e m := fun h => by unfold closedAt; rw [if_neg h]
  rw [bs_size, Int.toNat_natCast, Int.toNat_natCast, ext_cut]
  by_cases hl : e < t.length
  · rw [if_pos (by simp; omega)]
    refine ⟨by omega, by omega, ?_⟩
    rw [g_at]
    refine Calls.then (rletter_ok ((w.alloc W39).alloc F29o) _) ?_
    rintro v w1 ⟨rfl, rfl⟩
    refine ⟨_, rfl, ?_⟩
    refine ite_both (fun hx => ?_) (fun hx => ?_)
    · refine ⟨by omega, by omega, ?_⟩
      refine Calls.then (rdigit_ok ((w.alloc W39).alloc F29o) _) ?_
      rintro v w1 ⟨rfl, rfl⟩
      refine ⟨_, rfl, ?_⟩
      refine ite_both (fun hy => ?_) (fun hy => ?_)
      · exact ret2 h2 (doc_bad h2 (Nat.le_refl _) hs hc (bad ⟨hl, by simp [isAl, hy]⟩))
      · exact ⟨by omega, by omega, by omega, by omega, ret2 h2 (doc_ok h2 (Nat.le_refl _) hs hc (good_ fun hh => by have := hh.2; simp [isAl, hx] at this; exact hy this))⟩
    · exact ret2 h2 (doc_bad h2 (Nat.le_refl _) hs hc (bad ⟨hl, by simp at hx; simp [isAl, hx]⟩))
  · rw [if_neg (by simp; omega)]
    exact ⟨by omega, by omega, by omega, by omega, ret2 h2 (doc_ok h2 (Nat.le_refl _) hs hc (good_ fun hh => hl hh.1))⟩

theorem decimal_ok (w : World) (l : List UInt8) (hl : ∀ j, j < l.length → isDig (g l j) = true) (hlen : l.length ≤ 65536) :
    Calls Tryz.prog 57 #[.string (bs l)] w (endW (fun v w' => v = (if vals 10 l ≤ 18446744073709551615 then .tuple #[.int .u64 (vals 10 l : Nat), .bool true] else .tuple #[.int .u64 0, .bool false]) ∧ w' = w) (fun _ _ => False)) := by
  refine F57_calls _ ?_
  delta F57
  refine ⟨fun s w' => ∃ i n : Nat, s = ((n : Int), (i : Int)) ∧ i ≤ l.length ∧ n = vals 10 (l.take i) ∧ n ≤ 18446744073709551615 ∧ w' = w, fun s _ => (l.length - s.2).toNat, ⟨(0, 0), ⟨rfl, rfl, trivial⟩, 0, 0, rfl, by omega, by simp [vals], by omega, rfl⟩, ?_⟩
  rintro _ w1 ⟨i, n, rfl, hi, hn, hmax, rfl⟩ _
  dsimp only
  rw [bs_size]
  by_cases hlt : i < l.length
  · rw [if_pos (by simp; omega)]
    refine ⟨by omega, by omega, by omega, ?_⟩
    have hd := hl i hlt
    rw [g_at]
    have htk := vals_take (b := 10) hlt
    have hle := vals_le (b := 10) (by omega) l (i + 1)
    rw [htk, ← hn] at hle
    rw [← hn] at htk
    generalize g l i = c at hd hle htk ⊢
    simp only [isDig, decide_eq_true_eq] at hd
    have hhv : hv c = c - 48 := by unfold hv; rw [if_pos hd]
    rw [hhv] at hle htk
    have e1 : IntKind.wrap .u64 (IntKind.wrap .u8 ((c : Int) - 48)) = ((c - 48 : Nat) : Int) := by rw [IntWalk.u8_in _ (by omega), wrap_u64]; omega
    rw [e1]
    generalize hdd : c - 48 = d at hle htk ⊢
    have hd10 : d < 10 := by omega
    have e2 : IntKind.wrap .u64 (Int.tdiv (IntKind.wrap .u64 (18446744073709551615 - (d : Int))) 10) = (((18446744073709551615 - d) / 10 : Nat) : Int) := by
      rw [wrap_u64 (18446744073709551615 - (d : Int)), Int.tdiv_eq_ediv_of_nonneg (by omega), wrap_u64]
      omega
    rw [e2]
    by_cases ho : n * 10 + d ≤ 18446744073709551615
    · rw [if_neg (by simp; omega)]
      refine ⟨(((n * 10 + d : Nat) : Int), ((i + 1 : Nat) : Int)), ⟨?_, by rw [i64w _ (by omega) (by omega)]; rfl, trivial⟩, ⟨i + 1, n * 10 + d, rfl, by omega, htk.symm, ho, rfl⟩, by dsimp only; omega⟩
      rw [wrap_u64 ((n : Int) * 10), wrap_u64]
      congr 1
      omega
    · rw [if_pos (by simp; omega), if_neg (by omega)]
      exact ⟨rfl, rfl⟩
  · rw [if_neg (by simp; omega)]
    have : i = l.length := by omega
    subst this
    rw [List.take_length] at hn
    subst hn
    rw [if_pos hmax]
    exact ⟨rfl, rfl⟩
end Go.Proofs.YtgoanblnkdihfaaGreatDoor.B

/-
  scan: the document's pairs, dotted.
-/
set_option maxRecDepth 100000
set_option linter.unusedVariables false
set_option linter.unusedSimpArgs false
namespace Go.Proofs.YtgoanblnkdihfaaGreatDoor.B
open Go Go.Proofs Go.Proofs.YtgoanblnkdihfaaGreatDoorEng Go.RowKit

def pval (t : List UInt8) (b m : Nat) : Nat → Nat
  | 0 => m
  | 1 => m * 16 + hv (g t b)
  | _ => (m * 16 + hv (g t b)) * 16 + hv (g t (b + 1))
theorem pval_zero (t : List UInt8) (b m : Nat) : pval t b m 0 = m := rfl
theorem pval_succ (t : List UInt8) (b m : Nat) : ∀ j, j < 2 → pval t b m (j + 1) = pval t b m j * 16 + hv (g t (b + j))
  | 0, _ => rfl
  | 1, _ => rfl
  | j + 2, h => by omega
theorem pval_lt {t : List UInt8} {b m : Nat} (hm : m < 1099511627776) : ∀ j, j ≤ 1 → (1 ≤ j → isHex (g t b) = true) → pval t b m j < 17592186044416
  | 0, _, _ => by rw [pval_zero]; omega
  | 1, _, h => by
    have := hv_lt (h (by omega))
    have e : pval t b m 1 = m * 16 + hv (g t b) := rfl
    rw [e]
    omega
  | j + 2, h, _ => by omega
theorem pval_two (t : List UInt8) (b m : Nat) : pval t b m 2 = m * 256 + (hv (g t b) * 16 + hv (g t (b + 1))) := by
  have e2 : pval t b m 2 = (m * 16 + hv (g t b)) * 16 + hv (g t (b + 1)) := rfl
  rw [e2]
  omega
theorem rpairs_ok (w : World) (t : List UInt8) (k : Nat) (hk : k ≤ t.length) (ht : t.length ≤ 65536) : Calls Tryz.prog 32 #[.string (bs t), .int .i64 (k : Int)] w (endW (fun v w' => v = rpairsV (pairsAt t k) ∧ w' = w) (fun _ _ => False)) := by
  refine F32_calls _ _ ?_
  delta F32
  refine ⟨fun s w' => ∃ i at_ m : Nat, s = ((at_ : Int), (m : Int), (i : Int)) ∧ i ≤ 6 ∧ at_ ≤ t.length ∧ m < 256 ^ i ∧ pr t i at_ m = pairsAt t k ∧ w' = w, fun s _ => (6 - s.2.2).toNat, ⟨((k : Int), 0, 0), ⟨rfl, rfl, rfl, trivial⟩, 0, k, 0, rfl, by omega, hk, by omega, rfl, rfl⟩, ?_⟩
  rintro _ w1 ⟨i, at_, m, rfl, hi, hat, hm, he, rfl⟩ _
  dsimp only
  rw [bs_size]
  by_cases hlt : i < 6
  · rw [if_pos (by simp; omega)]
    have hm48' : m < 1099511627776 := Nat.lt_of_lt_of_le hm (by
      have : 256 ^ i ≤ 256 ^ 5 := Nat.pow_le_pow_right (by omega) (by omega)
      omega)
    generalize hb : (if i = 0 then at_ else at_ + 1) = b
    have no : ¬ ((i = 0 ∨ isAt t at_ 58 = true) ∧ b + 2 ≤ t.length ∧ isHex (g t b) = true ∧ isHex (g t (b + 1)) = true) → Value.tuple #[.int .u64 0, .int .i64 0, .bool false] = rpairsV (pairsAt t k) ∧ w1 = w1 := fun hn => ⟨by rw [← he, pr_no hlt hb.symm hn]; rfl, rfl⟩
    refine ⟨fun s w' => s = (b : Int) ∧ (i = 0 ∨ isAt t at_ 58 = true) ∧ b ≤ t.length ∧ w' = w1, ?_, ?_⟩
    · rintro _ w2 ⟨rfl, hcol, hbl, rfl⟩ _
      refine ⟨fun s w' => ∃ j : Nat, s = (((b + j : Nat) : Int), (pval t b m j : Int), (j : Int)) ∧ j ≤ 2 ∧ (1 ≤ j → b < t.length ∧ isHex (g t b) = true) ∧ (2 ≤ j → b + 1 < t.length ∧ isHex (g t (b + 1)) = true) ∧ w' = w2, fun s _ => (2 - s.2.2).toNat, ⟨((b : Int), (m : Int), 0), ⟨rfl, rfl, rfl, trivial⟩, 0, rfl, by omega, fun h => by omega, fun h => by omega, rfl⟩, ?_⟩
      rintro _ w3 ⟨j, rfl, hj, h1, h2, rfl⟩ _
      dsimp only
      by_cases hj2 : j < 2
      · rw [if_pos (by simp; omega)]
        by_cases hl : b + j < t.length
        · rw [if_pos (by simp; omega)]
          refine ⟨by omega, by omega, ?_⟩
          rw [g_at]
          refine Calls.then (value_ok w3 _ (g_lt _ _)) ?_
          rintro v w4 ⟨rfl, rfl⟩
          refine ⟨_, rfl, ?_⟩
          by_cases hx : isHex (g t (b + j)) = true
          · rw [if_pos hx, if_neg (by simp)]
            refine ⟨by omega, by omega, by omega, ?_⟩
            refine Calls.then (value_ok w4 _ (g_lt _ _)) ?_
            rintro v w5 ⟨rfl, rfl⟩
            refine ⟨_, rfl, ?_⟩
            rw [if_pos hx]
            have hv16 := hv_lt hx
            have hpv := pval_lt (t := t) (b := b) hm48' j (by omega) (fun h => (h1 h).2)
            have hps := pval_succ t b m j hj2
            generalize pval t b m j = pj at hpv hps ⊢
            have e3 : IntKind.wrap .u64 ((pj : Int) * (2 : Int) ^ 4) = ((pj * 2 ^ 4 : Nat) : Int) := by rw [wrap_u64]; omega
            have e4 : IntKind.wrap .u64 ((hv (g t (b + j)) : Nat) : Int) = ((hv (g t (b + j)) : Nat) : Int) := by rw [wrap_u64]; omega
            rw [e3, e4, or_low (k := 4) (by omega) (by omega) (by omega), wrap_u64]
            refine ⟨(((b + (j + 1) : Nat) : Int), (pval t b m (j + 1) : Int), ((j + 1 : Nat) : Int)), ⟨by rw [i64w _ (by omega) (by omega)]; rfl, ?_, by rw [i64w _ (by omega) (by omega)]; rfl, trivial⟩, ⟨j + 1, rfl, by omega, fun _ => ?_, fun h => ?_, rfl⟩, by dsimp only; omega⟩
            · dsimp only
              rw [hps]
              congr 1
              omega
            · match j, hj2 with
              | 0, _ => exact ⟨hl, hx⟩
              | 1, _ => exact h1 (by omega)
            · match j, hj2 with
              | 0, _ => omega
              | 1, _ => exact ⟨hl, hx⟩
          · rw [if_neg hx, if_pos (by decide)]
            refine no fun hh => ?_
            match j, hj2 with
            | 0, _ => exact hx hh.2.2.1
            | 1, _ => exact hx hh.2.2.2
        · rw [if_neg (by simp; omega)]
          exact no fun hh => by have := hh.2.1; omega
      · rw [if_neg (by simp; omega)]
        have : j = 2 := by omega
        subst this
        have a1 := h1 (by omega)
        have a2 := h2 (by omega)
        refine ⟨(((b + 2 : Nat) : Int), (pval t b m 2 : Int), ((i + 1 : Nat) : Int)), ⟨rfl, rfl, by rw [i64w _ (by omega) (by omega)]; rfl, trivial⟩, ⟨i + 1, b + 2, pval t b m 2, rfl, by omega, by omega, ?_, ?_, rfl⟩, by dsimp only; omega⟩
        · have l1 := hv_lt a1.2
          have l2 := hv_lt a2.2
          rw [Nat.pow_succ, pval_two]
          omega
        · rw [← he, pr_go hlt hb.symm hcol (by omega) a1.2 a2.2]
          rw [pval_two]
    · by_cases hi0 : i = 0
      · rw [if_neg (by simp; omega)]
        rw [if_pos hi0] at hb
        subst hb
        exact ⟨(at_ : Int), ⟨rfl, trivial⟩, rfl, .inl hi0, hat, rfl⟩
      · rw [if_pos (by simp; omega)]
        rw [if_neg hi0] at hb
        subst hb
        by_cases hl : at_ < t.length
        · rw [if_pos (by simp; omega)]
          refine ⟨by omega, by omega, ?_⟩
          rw [g_at]
          by_cases hx : g t at_ = 58
          · rw [if_neg (by simp [hx])]
            exact ⟨((at_ + 1 : Nat) : Int), ⟨by rw [i64w _ (by omega) (by omega)]; rfl, trivial⟩, rfl, .inr (by simp [isAt, hl, hx]), by omega, rfl⟩
          · rw [if_pos (by simp; omega)]
            exact no fun hh => by rcases hh.1 with h | h; exact hi0 h; simp [isAt, hx] at h
        · rw [if_neg (by simp; omega)]
          exact no fun hh => by rcases hh.1 with h | h; exact hi0 h; simp [isAt, hl] at h
  · rw [if_neg (by simp; omega)]
    have : i = 6 := by omega
    subst this
    rw [pr_end] at he
    refine ⟨?_, rfl⟩
    rw [← he]
    rfl
end Go.Proofs.YtgoanblnkdihfaaGreatDoor.B

/-
  scan: the document's dotted.
-/
set_option maxRecDepth 100000
set_option linter.unusedVariables false
set_option linter.unusedSimpArgs false
namespace Go.Proofs.YtgoanblnkdihfaaGreatDoor.B
open Go Go.Proofs Go.Proofs.YtgoanblnkdihfaaGreatDoorEng Go.RowKit

/-- a result taken apart -/
theorem take2 {k : Nat} {t : List UInt8} {o : One} {v : Value} {K : Int → ByteArray → Int → Int → Int → Int → ByteArray → Prop} (hv : v = docV t k o)
    (hok : ∀ kd e m : Nat, o = .ok kd e m → K kd (bs (cut t k e)) m k 0 0 ⟨#[]⟩) (hbad : ∀ code e : Nat, o = .bad code e → K 0 ⟨#[]⟩ 0 0 code k (bs (cut t k e))) :
    ∃ (vs : List Value), v = Value.tuple (List.toArray vs) ∧ ∃ (v : Value), ∃ (rest : List Value), vs = v :: rest ∧ ∃ (vs : List Value), v = Value.agg (List.toArray vs) ∧ ∃ (v : Value), ∃ (rest_1 : List Value), vs = v :: rest_1 ∧ ∃ (x : Int), v = Value.int IntKind.i8 x ∧ ∃ (v : Value), ∃ (rest_2 : List Value), rest_1 = v :: rest_2 ∧ ∃ (s : ByteArray), v = Value.string s ∧ ∃ (v : Value), ∃ (rest_3 : List Value), rest_2 = v :: rest_3 ∧ ∃ (x_1 : Int), v = Value.int IntKind.u64 x_1 ∧ ∃ (v : Value), ∃ (rest_4 : List Value), rest_3 = v :: rest_4 ∧ ∃ (x_2 : Int), v = Value.int IntKind.i64 x_2 ∧ rest_4 = [] ∧
      ∃ (v : Value), ∃ (rest_5 : List Value), rest = v :: rest_5 ∧ ∃ (vs : List Value), v = Value.agg (List.toArray vs) ∧ ∃ (v : Value), ∃ (rest : List Value), vs = v :: rest ∧ ∃ (x_3 : Int), v = Value.int IntKind.i64 x_3 ∧ ∃ (v : Value), ∃ (rest_6 : List Value), rest = v :: rest_6 ∧ ∃ (x_4 : Int), v = Value.int IntKind.i64 x_4 ∧ ∃ (v : Value), ∃ (rest : List Value), rest_6 = v :: rest ∧ ∃ (s_1 : ByteArray), v = Value.string s_1 ∧ rest = [] ∧ rest_5 = [] ∧ K x s x_1 x_2 x_3 x_4 s_1 := by
  subst hv
  cases o with
  | ok kd e m => exact ⟨_, rfl, _, _, rfl, _, rfl, _, _, rfl, _, rfl, _, _, rfl, _, rfl, _, _, rfl, _, rfl, _, _, rfl, _, rfl, rfl, _, _, rfl, _, rfl, _, _, rfl, _, rfl, _, _, rfl, _, rfl, _, _, rfl, _, rfl, rfl, rfl, hok kd e m rfl⟩
  | bad code e => exact ⟨_, rfl, _, _, rfl, _, rfl, _, _, rfl, _, rfl, _, _, rfl, _, rfl, _, _, rfl, _, rfl, _, _, rfl, _, rfl, rfl, _, _, rfl, _, rfl, _, _, rfl, _, rfl, _, _, rfl, _, rfl, _, _, rfl, _, rfl, rfl, rfl, hbad code e rfl⟩
theorem rdotted_ok (w : World) (t : List UInt8) (k : Nat) (hk : k ≤ t.length) (ht : t.length ≤ 65536) : Calls Tryz.prog 56 #[.string (bs t), .int .i64 (k : Int)] w (endW (DocR t k (dots t 0 k 0) w) (fun _ _ => False)) := by
  refine F56_calls _ _ ?_
  delta F56
  obtain ⟨h2, hc⟩ := two_new w
  have hs : w.heap.size ≤ (w.alloc W39).heap.size := by rw [size_alloc]; omega
  change ∃ I : Int × Int × Bool × Int → World → Prop, ∃ μ : Int × Int × Bool × Int → World → Nat, (∃ s, _ ∧ I s ((w.alloc W39).alloc F29o)) ∧ _
  generalize hq : (w.alloc W39).heap.size = q at h2 hs
  generalize hp : w.heap.size = p at h2 hs
  refine ⟨fun s w' => ∃ i at_ : Nat, s.2.1 = (at_ : Int) ∧ s.2.2.2 = (i : Int) ∧ i ≤ 4 ∧ k ≤ at_ ∧ at_ ≤ t.length ∧ Two w' p q ∧ Chg NoS w w' ∧ (s.2.2.1 = true → ∃ m : Nat, s.1 = (m : Int) ∧ m < 256 ^ i ∧ dots t i at_ m = dots t 0 k 0) ∧ (s.2.2.1 = false → dots t 0 k 0 = .bad 150 at_), fun s _ => (4 - s.2.2.2).toNat, ⟨(0, (k : Int), true, 0), ⟨rfl, rfl, rfl, rfl, trivial⟩, 0, k, rfl, rfl, by omega, Nat.le_refl _, hk, h2, hc, fun _ => ⟨0, rfl, by omega, rfl⟩, fun h => by cases h⟩, ?_⟩
  rintro ⟨n, z, gd, zi⟩ w1 ⟨i, at_, hz, hzi, hi, hka, hat, h21, hc1, hgood, hbad⟩ _
  dsimp only at hz hzi hgood hbad ⊢
  subst hz hzi
  have hpw : w.heap.size ≤ p := by omega
  have hqw : w.heap.size ≤ q := by omega
  have ret_bad : ∀ w' : World, Two w' p q → Chg NoS w w' → ∀ at' : Nat, dots t 0 k 0 = .bad 150 at' → ∀ w'', Chg (fun b => b = p ∨ b = q) w' w'' → DocR t k (dots t 0 k 0) w (.tuple #[.agg #[.int .i8 0, .string ⟨#[]⟩, .int .u64 0, .int .i64 0], .agg #[.int .i64 150, .int .i64 (k : Int), .string (bs (cut t k at'))]]) w'' := fun w' h hc at' ho => doc_bad h hpw hqw hc ho
  refine ⟨fun _ w' => w' = w1 ∧ gd = true ∧ i < 4, ?_, ?_⟩
  · rintro _ w2 ⟨rfl, rfl, hlt⟩ _
    obtain ⟨m, rfl, hm, he⟩ := hgood rfl
    have hm24 : m < 16777216 := Nat.lt_of_lt_of_le hm (by
      have : 256 ^ i ≤ 256 ^ 3 := Nat.pow_le_pow_right (by omega) (by omega)
      omega)
    generalize hb : (if i = 0 then at_ else at_ + 1) = b
    refine ⟨fun s w' => s = (b : Int) ∧ (i = 0 ∨ isAt t at_ 46 = true) ∧ k ≤ b ∧ b ≤ t.length ∧ w' = w2, ?_, ?_⟩
    · rintro _ w3 ⟨rfl, hcol, hkb, hbl, rfl⟩ _
      refine Calls.then (run_ok w3 t b hbl ht) ?_
      rintro v w4 ⟨rfl, rfl⟩
      have hsp := span_le isDig t b
      have hcd := cut_dig isDig (t := t) (k := b) hbl
      generalize hee : span isDig t b = e at hsp hcd
      have hel := hsp.2 hbl
      have hle := hsp.1
      have hcl := cut_length t b e hle hel
      refine ⟨_, rfl, ?_⟩
      refine Calls.then (decimal_ok w4 (cut t b e) hcd (by rw [hcl]; omega)) ?_
      rintro v w5 ⟨rfl, rfl⟩
      have e1 : IntKind.wrap .i64 ((b : Int) + ((cut t b e).length : Int)) = (e : Int) := by rw [hcl, i64w _ (by omega) (by omega)]; omega
      rw [show ({ data := #[] } : ByteArray) = bs [] from rfl, bs_beq, bs_size, e1]
      have next : ∀ (n' : Int) (g' : Bool), (g' = true → n' = ((m * 256 + vals 10 (cut t b e) : Nat) : Int) ∧ (cut t b e ≠ [] ∧ vals 10 (cut t b e) ≤ 255 ∧ ¬ (b + 1 < e ∧ isAt t b 48 = true))) → (g' = false → ¬ (cut t b e ≠ [] ∧ vals 10 (cut t b e) ≤ 255 ∧ ¬ (b + 1 < e ∧ isAt t b 48 = true))) →
          ∃ s' : Int × Int × Bool × Int, (Value.int .u64 s'.1 = .int .u64 n' ∧ Value.int .i64 s'.2.1 = .int .i64 (e : Int) ∧ Value.bool s'.2.2.1 = .bool g' ∧ Value.int .i64 s'.2.2.2 = .int .i64 (IntKind.wrap .i64 ((i : Int) + 1)) ∧ True) ∧
            (∃ i at_ : Nat, s'.2.1 = (at_ : Int) ∧ s'.2.2.2 = (i : Int) ∧ i ≤ 4 ∧ k ≤ at_ ∧ at_ ≤ t.length ∧ Two w5 p q ∧ Chg NoS w w5 ∧ (s'.2.2.1 = true → ∃ m : Nat, s'.1 = (m : Int) ∧ m < 256 ^ i ∧ dots t i at_ m = dots t 0 k 0) ∧ (s'.2.2.1 = false → dots t 0 k 0 = .bad 150 at_)) ∧ (4 - s'.2.2.2).toNat < (4 - (i : Int)).toNat := fun n' g' hg1 hg2 =>
        ⟨(n', (e : Int), g', ((i + 1 : Nat) : Int)), ⟨rfl, rfl, rfl, by rw [i64w _ (by omega) (by omega)]; rfl, trivial⟩, ⟨i + 1, e, rfl, rfl, by omega, by omega, hel, h21, hc1, fun h => by
          obtain ⟨h1, h2⟩ := hg1 h
          refine ⟨_, h1, ?_, ?_⟩
          · rw [Nat.pow_succ]; omega
          · rw [← dots_go hlt hb.symm hee.symm hcol h2]; exact he, fun h => by rw [← he, dots_bad hlt hb.symm hee.symm hcol (hg2 h)]⟩, by dsimp only; omega⟩
      by_cases hne : cut t b e = []
      · have : vals 10 (cut t b e) ≤ 18446744073709551615 := by rw [hne]; simp [vals]
        rw [if_pos this]
        refine ⟨_, rfl, _, _, rfl, _, rfl, _, _, rfl, _, rfl, rfl, ?_⟩
        rw [if_neg (by simp [hne])]
        exact ⟨by omega, next _ _ (fun h => by cases h) (fun _ hh => hh.1 hne)⟩
      · have hlp : 0 < (cut t b e).length := List.length_pos_iff.2 hne
        by_cases hv : vals 10 (cut t b e) ≤ 18446744073709551615
        · rw [if_pos hv]
          refine ⟨_, rfl, _, _, rfl, _, rfl, _, _, rfl, _, rfl, rfl, ?_⟩
          rw [if_pos (by simp [hne]), if_pos rfl]
          by_cases hv2 : vals 10 (cut t b e) ≤ 255
          · rw [if_pos (by simp; omega)]
            have en : IntKind.wrap .u64 ((BitVec.ofInt 64 (IntKind.wrap .u64 ((m : Int) * (2 : Int) ^ 8)) ||| BitVec.ofInt 64 ((vals 10 (cut t b e) : Nat) : Int)).toNat : Int) = ((m * 256 + vals 10 (cut t b e) : Nat) : Int) := by
              have e3 : IntKind.wrap .u64 ((m : Int) * (2 : Int) ^ 8) = ((m * 2 ^ 8 : Nat) : Int) := by rw [wrap_u64]; omega
              rw [e3, or_low (k := 8) (by omega) (by omega) (by omega), wrap_u64]
              omega
            rw [en]
            by_cases hl1 : (cut t b e).length = 1
            · rw [if_neg (by simp [hl1])]
              exact ⟨by omega, next _ _ (fun _ => ⟨rfl, hne, hv2, fun hh => by have := hh.1; omega⟩) (fun h => by cases h)⟩
            · rw [if_pos (by simp; omega)]
              refine ⟨by omega, by omega, by omega, next _ _ (fun h => ⟨rfl, hne, hv2, fun hh => ?_⟩) (fun h hh => ?_)⟩
              · have h48 := hh.2
                simp [isAt] at h48
                have hg0 : g (cut t b e) 0 = g t b := cut_get t b e 0 (by omega)
                have h0 : byteAt (bs (cut t b e)) 0 = (g (cut t b e) 0 : Int) := g_at _ 0
                rw [h0, hg0, h48.2] at h
                simp at h
              · have hg0 : g (cut t b e) 0 = g t b := cut_get t b e 0 (by omega)
                have h0 : byteAt (bs (cut t b e)) 0 = (g (cut t b e) 0 : Int) := g_at _ 0
                rw [h0, hg0] at h
                simp at h
                exact hh.2.2 ⟨by omega, by simp [isAt]; omega⟩
          · rw [if_neg (by simp; omega)]
            exact ⟨by omega, next _ _ (fun h => by cases h) (fun _ hh => hv2 hh.2.1)⟩
        · rw [if_neg hv]
          refine ⟨_, rfl, _, _, rfl, _, rfl, _, _, rfl, _, rfl, rfl, ?_⟩
          rw [if_pos (by simp [hne]), if_neg (by decide)]
          exact ⟨by omega, next _ _ (fun h => by cases h) (fun _ hh => by have := hh.2.1; omega)⟩
    · have h21d : Two w2.drew p q := h21
      have hc1d : Chg NoS w w2.drew := hc1.trans (chg_drew _ _)
      by_cases hi0 : i = 0
      · rw [if_neg (by simp; omega)]
        rw [if_pos hi0] at hb
        subst hb
        exact ⟨(at_ : Int), ⟨rfl, trivial⟩, rfl, .inl hi0, hka, hat, rfl⟩
      · rw [if_pos (by simp; omega)]
        rw [if_neg hi0] at hb
        subst hb
        rw [bs_size, Int.toNat_natCast, Int.toNat_natCast, ext_cut]
        by_cases hl : at_ < t.length
        · rw [if_pos (by simp; omega)]
          refine ⟨by omega, by omega, ?_⟩
          rw [g_at]
          by_cases hx : g t at_ = 46
          · rw [if_neg (by simp [hx])]
            exact ⟨((at_ + 1 : Nat) : Int), ⟨by rw [i64w _ (by omega) (by omega)]; rfl, trivial⟩, rfl, .inr (by simp [isAt, hl, hx]), by omega, by omega, rfl⟩
          · rw [if_pos (by simp; omega)]
            exact ⟨by omega, by omega, by omega, by omega, ret2 h21d (ret_bad _ h21d hc1d at_ (by rw [← he, dots_no hlt fun hh => by rcases hh with h | h; exact hi0 h; simp [isAt, hx] at h]))⟩
        · rw [if_neg (by simp; omega)]
          exact ⟨by omega, by omega, by omega, by omega, ret2 h21d (ret_bad _ h21d hc1d at_ (by rw [← he, dots_no hlt fun hh => by rcases hh with h | h; exact hi0 h; simp [isAt, hl] at h]))⟩
  · have h21d : Two w1.drew p q := h21
    have hc1d : Chg NoS w w1.drew := hc1.trans (chg_drew _ _)
    rw [bs_size, Int.toNat_natCast, Int.toNat_natCast, ext_cut]
    have close : ¬ i < 4 → gd = true → Calls Tryz.prog 54 #[.string (bs t), .int .i64 (k : Int), .int .i64 (at_ : Int), .int .u64 n, .string (bs (cut t k at_))] w1 (endW (fun v w' => v = docV t k (dots t 0 k 0) ∧ Chg NoS w w' ∧ Two w' p q) (fun _ _ => False)) := fun h4 hg => by
      obtain ⟨m, rfl, hm, he⟩ := hgood hg
      have : i = 4 := by omega
      subst this
      rw [dots_end] at he
      refine Calls.then (rclosed_ok w1 t k at_ m hka hat) ?_
      rintro v w2 ⟨rfl, hc2⟩
      exact ⟨by rw [he], hc1.trans hc2, h21.chg hc2⟩
    cases gd with
    | true =>
      by_cases hlt : i < 4
      · rw [if_pos (by simp; omega), if_pos rfl]
        exact ⟨(), trivial, rfl, rfl, hlt⟩
      · rw [if_neg (by simp; omega), if_neg (by decide)]
        refine ⟨by omega, by omega, by omega, by omega, ?_⟩
        refine Calls.then (close hlt rfl) ?_
        rintro v w2 ⟨hv, hc2, h22⟩
        exact take2 hv (fun kd e m ho => ret2 h22 (doc_ok h22 hpw hqw hc2 ho)) (fun code e ho => ret2 h22 (doc_bad h22 hpw hqw hc2 ho))
    | false =>
      have hb := hbad rfl
      refine ite_both (fun _ => ?_) (fun _ => ?_)
      · rw [if_neg (by decide), if_pos (by decide)]
        exact ⟨by omega, by omega, by omega, by omega, ret2 h21d (ret_bad _ h21d hc1d at_ hb)⟩
      · rw [if_pos (by decide)]
        exact ⟨by omega, by omega, by omega, by omega, ret2 h21d (ret_bad _ h21d hc1d at_ hb)⟩
end Go.Proofs.YtgoanblnkdihfaaGreatDoor.B

/-
  scan: the document's number.
-/
set_option maxRecDepth 100000
set_option linter.unusedVariables false
set_option linter.unusedSimpArgs false
set_option maxHeartbeats 400000
namespace Go.Proofs.YtgoanblnkdihfaaGreatDoor.B
open Go Go.Proofs Go.Proofs.YtgoanblnkdihfaaGreatDoorEng Go.RowKit

theorem vals_pow {l : List UInt8} (hl : ∀ j, j < l.length → isHex (g l j) = true) : ∀ j, j ≤ l.length → vals 16 (l.take j) < 16 ^ j
  | 0, _ => by simp [vals]
  | j + 1, h => by
    have ih := vals_pow hl j (by omega)
    have hx := hv_lt (hl j (by omega))
    rw [vals_take (by omega), Nat.pow_succ]
    omega
theorem rnumber_ok (w : World) (t : List UInt8) (k : Nat) (hk : k < t.length) (ht : t.length ≤ 65536) (hd : pairsAt t k = none → isDig (g t k) = true) : Calls Tryz.prog 34 #[.string (bs t), .int .i64 (k : Int)] w (endW (DocR t k (numAt t k) w) (fun _ _ => False)) := by
  refine F34_calls _ _ ?_
  delta F34
  obtain ⟨h2, hc⟩ := two_new w
  have hs : w.heap.size ≤ (w.alloc W39).heap.size := by rw [size_alloc]; omega
  change Calls _ _ _ ((w.alloc W39).alloc F29o) _
  generalize (w.alloc W39).alloc F29o = w1 at h2 hc
  generalize (w.alloc W39).heap.size = q at h2 hs ⊢
  generalize hp : w.heap.size = p at h2 hs ⊢
  have hpw : w.heap.size ≤ p := by omega
  have hqw : w.heap.size ≤ q := by omega
  have clo : ∀ (w' : World), Two w' p q → Chg NoS w w' → ∀ (e m : Nat), k ≤ e → e ≤ t.length → numAt t k = closedAt t e m → Calls Tryz.prog 54 #[.string (bs t), .int .i64 (k : Int), .int .i64 (e : Int), .int .u64 (m : Int), .string (bs (cut t k e))] w' (endW (fun v w'' => v = docV t k (numAt t k) ∧ Chg NoS w w'' ∧ Two w'' p q) (fun _ _ => False)) := fun w' h hc' e m hke hel ho => by
    refine Calls.then (rclosed_ok w' t k e m hke hel) ?_
    rintro v w2 ⟨rfl, hc2⟩
    exact ⟨by rw [ho], hc'.trans hc2, h.chg hc2⟩
  refine Calls.then (rpairs_ok w1 t k (by omega) ht) ?_
  rintro v w2 ⟨rfl, rfl⟩
  have e1 : IntKind.wrap .i64 ((k : Int) + 1) = ((k + 1 : Nat) : Int) := by rw [i64w _ (by omega) (by omega)]; rfl
  have e2 : IntKind.wrap .i64 ((k : Int) + 2) = ((k + 2 : Nat) : Int) := by rw [i64w _ (by omega) (by omega)]; rfl
  have e18 : IntKind.wrap .i64 ((k : Int) + 18) = ((k + 18 : Nat) : Int) := by rw [i64w _ (by omega) (by omega)]; rfl
  cases hpr : pairsAt t k with
  | some x =>
    obtain ⟨m, e⟩ := x
    have hle := pr_le hpr (Nat.le_of_lt hk)
    refine ⟨_, rfl, _, _, rfl, _, rfl, _, _, rfl, _, rfl, _, _, rfl, _, rfl, rfl, ?_⟩
    rw [if_pos rfl]
    refine ⟨by omega, by rw [bs_size]; omega, by omega, by rw [Int.toNat_natCast]; omega, ?_⟩
    rw [Int.toNat_natCast, Int.toNat_natCast, ext_cut]
    refine Calls.then (clo w2 h2 hc e m hle.1 hle.2.1 (by unfold numAt; rw [hpr])) ?_
    rintro v w3 ⟨hv, hc3, h23⟩
    exact take2 hv (fun kd e m ho => ret2 h23 (doc_ok h23 hpw hqw hc3 ho)) (fun code e ho => ret2 h23 (doc_bad h23 hpw hqw hc3 ho))
  | none =>
    refine ⟨_, rfl, _, _, rfl, _, rfl, _, _, rfl, _, rfl, _, _, rfl, _, rfl, rfl, ?_⟩
    rw [if_neg (by decide)]
    rw [e1, e2, e18]
    refine ⟨fun s w' => w' = w2 ∧ (s = true ↔ isAt t k 48 = true ∧ isAt t (k + 1) 120 = true), ?_, by omega, by rw [bs_size]; omega, ?_⟩
    · rintro s w3 ⟨rfl, hsx⟩ _
      cases s with
      | true =>
        rw [if_pos rfl]
        obtain ⟨hz, hx⟩ := hsx.1 rfl
        have hx2 := hx
        simp [isAt] at hx2
        have hnum : numAt t k = hexNum t k := by unfold numAt; rw [hpr]; exact if_pos ⟨hz, hx⟩
        unfold hexNum at hnum
        have hsp := span_le isHex t (k + 2)
        have hcd := cut_dig isHex (t := t) (k := k + 2) (by omega)
        have hall := span_all (p := isHex) (t := t) (k := k + 2)
        have hend := span_end (p := isHex) (t := t) (k := k + 2)
        generalize span isHex t (k + 2) = e at hsp hcd hall hend hnum
        have hel := hsp.2 (by omega)
        have hle := hsp.1
        have hcl := cut_length t (k + 2) e hle hel
        have hpow := vals_pow hcd
        have bad : (e = k + 2 ∨ k + 18 < e) → numAt t k = .bad 150 e := fun h => by
          rw [hnum, if_neg]
          rintro ⟨h1, _, h3⟩
          rcases h with h | h
          · exact h1 (List.length_eq_zero_iff.1 (by omega))
          · exact h3 h
        have hfull : (cut t (k + 2) e).take (e - (k + 2)) = cut t (k + 2) e := List.take_of_length_le (by omega)
        have good : e ≠ k + 2 → ¬ k + 18 < e → numAt t k = closedAt t e (vals 16 (cut t (k + 2) e)) := fun h1 h2 => by
          rw [hnum, if_pos]
          refine ⟨fun h => ?_, ?_, h2⟩
          · rw [h] at hcl; simp at hcl; omega
          · have h3 := hpow (e - (k + 2)) (by omega)
            rw [hfull] at h3
            have : 16 ^ (e - (k + 2)) ≤ 16 ^ 16 := Nat.pow_le_pow_right (by omega) (by omega)
            omega
        refine ⟨fun s w' => ∃ j : Nat, s.2 = ((k + 2 + j : Nat) : Int) ∧ k + 2 + j ≤ e ∧ (j ≤ 16 → s.1 = ((vals 16 ((cut t (k + 2) e).take j) : Nat) : Int)) ∧ w' = w3, fun s _ => (t.length - s.2).toNat, ⟨(0, ((k + 2 : Nat) : Int)), ⟨rfl, rfl, trivial⟩, 0, rfl, by omega, fun _ => by simp [vals], rfl⟩, ?_⟩
        rintro ⟨n, z⟩ w4 ⟨j, hz', hje, hn, rfl⟩ _
        dsimp only at hz' hn ⊢
        subst hz'
        rw [bs_size]
        by_cases hlt : k + 2 + j < t.length
        · rw [if_pos (by simp; omega)]
          refine ⟨by omega, by omega, ?_⟩
          rw [g_at]
          refine Calls.then (value_ok w4 (g t (k + 2 + j)) (g_lt _ _)) ?_
          rintro v w5 ⟨rfl, rfl⟩
          refine ⟨_, rfl, ?_⟩
          by_cases hxx : isHex (g t (k + 2 + j)) = true
          · rw [if_pos hxx, if_pos (by simp)]
            refine ⟨by omega, by omega, by omega, ?_⟩
            refine Calls.then (value_ok w5 (g t (k + 2 + j)) (g_lt _ _)) ?_
            rintro v w6 ⟨rfl, rfl⟩
            refine ⟨_, rfl, ?_⟩
            rw [if_pos hxx]
            have hje' : k + 2 + j < e := by
              rcases Nat.lt_or_ge (k + 2 + j) e with h | h
              · exact h
              · have : k + 2 + j = e := by omega
                rw [this] at hlt hxx
                exact absurd ⟨hlt, hxx⟩ hend
            refine ⟨(_, ((k + 2 + (j + 1) : Nat) : Int)), ⟨rfl, by rw [i64w _ (by omega) (by omega)]; rfl, trivial⟩, ⟨j + 1, rfl, by omega, fun hj => ?_, rfl⟩, by dsimp only; omega⟩
            have hn' := hn (by omega)
            subst hn'
            have hjl : j < (cut t (k + 2) e).length := by omega
            have hlt16 := hpow j (by omega)
            have hxv := hv_lt hxx
            rw [vals_take hjl, cut_get t (k + 2) e j (by omega)]
            have hp15 : 16 ^ j ≤ 16 ^ 15 := Nat.pow_le_pow_right (by omega) (by omega)
            generalize vals 16 ((cut t (k + 2) e).take j) = m at hlt16 ⊢
            generalize hv (g t (k + 2 + j)) = x at hxv ⊢
            have hm : m < 1152921504606846976 := Nat.lt_of_lt_of_le hlt16 hp15
            dsimp only
            have e3 : IntKind.wrap .u64 ((m : Int) * (2 : Int) ^ 4) = ((m * 2 ^ 4 : Nat) : Int) := by rw [wrap_u64]; omega
            have e4 : IntKind.wrap .u64 (x : Int) = (x : Int) := by rw [wrap_u64]; omega
            rw [e3, e4, or_low (k := 4) (by omega) (by omega) (by omega)]
            have e5 : IntKind.wrap .u64 ((m * 2 ^ 4 + x : Nat) : Int) = ((m * 16 + x : Nat) : Int) := by rw [wrap_u64]; omega
            exact e5
          · rw [if_neg hxx, if_neg (by decide)]
            have hje2 : k + 2 + j = e := by
              rcases Nat.lt_or_ge (k + 2 + j) e with h | h
              · have h1 := hall (k + 2 + j) (by omega) h
                first | exact absurd h1.1 hlt | exact absurd h1.2 hxx
              · omega
            subst hje2
            by_cases h0 : j = 0
            · subst h0
              rw [if_neg (by simp)]
              refine ⟨by omega, by omega, by omega, by omega, ?_⟩
              rw [Int.toNat_natCast, Int.toNat_natCast, ext_cut]
              exact ret2 (h2.chg (chg_drew _ _)) (doc_bad (h2.chg (chg_drew _ _)) hpw hqw (hc.trans (chg_drew _ _)) (bad (.inl rfl)))
            · rw [if_pos (by simp; omega)]
              by_cases h16 : 16 < j
              · rw [if_pos (by simp; omega)]
                refine ⟨by omega, by omega, by omega, by omega, ?_⟩
                rw [Int.toNat_natCast, Int.toNat_natCast, ext_cut]
                exact ret2 (h2.chg (chg_drew _ _)) (doc_bad (h2.chg (chg_drew _ _)) hpw hqw (hc.trans (chg_drew _ _)) (bad (.inr (by omega))))
              · rw [if_neg (by simp; omega)]
                have hn' := hn (by omega)
                subst hn'
                refine ⟨by omega, by omega, by omega, by omega, ?_⟩
                rw [Int.toNat_natCast, Int.toNat_natCast, ext_cut]
                refine Calls.then (clo _ h2 hc (k + 2 + j) _ (by omega) hel ?_) ?_
                · rw [good (by omega) (by omega), ← hfull, show k + 2 + j - (k + 2) = j from by omega, List.take_take, Nat.min_self]
                · rintro v w7 ⟨hv, hc3, h23⟩
                  exact take2 hv (fun kd e m ho => ret2 h23 (doc_ok h23 hpw hqw hc3 ho)) (fun code e ho => ret2 h23 (doc_bad h23 hpw hqw hc3 ho))
        · rw [if_neg (by simp; omega)]
          have hje2 : k + 2 + j = e := by
            rcases Nat.lt_or_ge (k + 2 + j) e with h | h
            · have h1 := hall (k + 2 + j) (by omega) h
              first | exact absurd h1.1 hlt | exact absurd h1.2 hxx
            · omega
          subst hje2
          by_cases h0 : j = 0
          · subst h0
            rw [if_neg (by simp)]
            refine ⟨by omega, by omega, by omega, by omega, ?_⟩
            rw [Int.toNat_natCast, Int.toNat_natCast, ext_cut]
            exact ret2 (h2.chg (chg_drew _ _)) (doc_bad (h2.chg (chg_drew _ _)) hpw hqw (hc.trans (chg_drew _ _)) (bad (.inl rfl)))
          · rw [if_pos (by simp; omega)]
            by_cases h16 : 16 < j
            · rw [if_pos (by simp; omega)]
              refine ⟨by omega, by omega, by omega, by omega, ?_⟩
              rw [Int.toNat_natCast, Int.toNat_natCast, ext_cut]
              exact ret2 (h2.chg (chg_drew _ _)) (doc_bad (h2.chg (chg_drew _ _)) hpw hqw (hc.trans (chg_drew _ _)) (bad (.inr (by omega))))
            · rw [if_neg (by simp; omega)]
              have hn' := hn (by omega)
              subst hn'
              refine ⟨by omega, by omega, by omega, by omega, ?_⟩
              rw [Int.toNat_natCast, Int.toNat_natCast, ext_cut]
              refine Calls.then (clo _ h2 hc (k + 2 + j) _ (by omega) hel ?_) ?_
              · rw [good (by omega) (by omega), ← hfull, show k + 2 + j - (k + 2) = j from by omega, List.take_take, Nat.min_self]
              · rintro v w7 ⟨hv, hc3, h23⟩
                exact take2 hv (fun kd e m ho => ret2 h23 (doc_ok h23 hpw hqw hc3 ho)) (fun code e ho => ret2 h23 (doc_bad h23 hpw hqw hc3 ho))
      | false =>
        rw [if_neg (by decide)]
        have hno : ¬ (isAt t k 48 = true ∧ isAt t (k + 1) 120 = true) := fun h => by have := hsx.2 h; cases this
        have hnum : numAt t k = if isAt t (span isDig t k) 46 = true then dots t 0 k 0 else decNum t k := by unfold numAt; rw [hpr]; exact if_neg hno
        unfold decNum at hnum
        refine Calls.then (run_ok w3 t k (by omega) ht) ?_
        rintro v w4 ⟨rfl, rfl⟩
        have hsp := span_le isDig t k
        have hke : k + 1 ≤ span isDig t k := by rw [span_go hk (hd hpr)]; exact (span_le isDig t (k + 1)).1
        have hcd := cut_dig isDig (t := t) (k := k) (by omega)
        generalize span isDig t k = e at hsp hcd hnum hke
        have hel := hsp.2 (by omega)
        have hle := hsp.1
        have hcl := cut_length t k e hle hel
        have ee : IntKind.wrap .i64 ((k : Int) + ((cut t k e).length : Int)) = (e : Int) := by rw [hcl, i64w _ (by omega) (by omega)]; omega
        refine ⟨_, rfl, ?_⟩
        rw [bs_size, bs_size, ee]
        refine ⟨fun _ w' => w' = w4 ∧ ¬ isAt t e 46 = true, ?_, ?_⟩
        · rintro _ w5 ⟨rfl, hdot⟩ _
          rw [if_neg hdot] at hnum
          refine Calls.then (decimal_ok w5 (cut t k e) hcd (by omega)) ?_
          rintro v w6 ⟨rfl, rfl⟩
          by_cases hv : vals 10 (cut t k e) ≤ 18446744073709551615
          · rw [if_pos hv]
            refine ⟨_, rfl, _, _, rfl, _, rfl, _, _, rfl, _, rfl, rfl, ?_⟩
            rw [if_neg (by decide)]
            have hne : cut t k e ≠ [] := fun h => by rw [h] at hcl; simp at hcl; omega
            rw [if_pos ⟨hne, hv⟩] at hnum
            have close : numAt t k = closedAt t e (vals 10 (cut t k e)) → Calls Tryz.prog 54 #[.string (bs t), .int .i64 (k : Int), .int .i64 (e : Int), .int .u64 ((vals 10 (cut t k e) : Nat) : Int), .string (bs (cut t k e))] w6 (endW (fun v w'' => v = docV t k (numAt t k) ∧ Chg NoS w w'' ∧ Two w'' p q) (fun _ _ => False)) := fun ho => clo w6 h2 hc e _ hle hel ho
            by_cases hl1 : k + 1 < e
            · rw [if_pos (by simp; omega)]
              refine ⟨by omega, by omega, ?_⟩
              have h0 : byteAt (bs (cut t k e)) 0 = (g (cut t k e) 0 : Int) := g_at _ 0
              have hg0 : g (cut t k e) 0 = g t k := cut_get t k e 0 (by omega)
              rw [h0, hg0]
              by_cases hz : g t k = 48
              · rw [if_pos (by simp [hz])]
                have ho : numAt t k = .bad 150 e := by rw [hnum, if_pos ⟨hl1, by simp [isAt, hk, hz]⟩]
                first
                  | exact ret2 h2 (doc_bad h2 hpw hqw hc ho)
                  | exact ret2 (h2.chg (chg_drew _ _)) (doc_bad (h2.chg (chg_drew _ _)) hpw hqw (hc.trans (chg_drew _ _)) ho)
              · rw [if_neg (by simp; omega)]
                refine Calls.then (close (by rw [hnum, if_neg fun hh => by have := hh.2; simp [isAt] at this; exact hz this.2])) ?_
                rintro v w7 ⟨hv', hc3, h23⟩
                exact take2 hv' (fun kd e m ho => ret2 h23 (doc_ok h23 hpw hqw hc3 ho)) (fun code e ho => ret2 h23 (doc_bad h23 hpw hqw hc3 ho))
            · rw [if_neg (by simp; omega)]
              refine Calls.then (close (by rw [hnum, if_neg fun hh => hl1 hh.1])) ?_
              rintro v w7 ⟨hv', hc3, h23⟩
              exact take2 hv' (fun kd e m ho => ret2 h23 (doc_ok h23 hpw hqw hc3 ho)) (fun code e ho => ret2 h23 (doc_bad h23 hpw hqw hc3 ho))
          · rw [if_neg hv]
            refine ⟨_, rfl, _, _, rfl, _, rfl, _, _, rfl, _, rfl, rfl, ?_⟩
            rw [if_pos (by decide)]
            exact ret2 h2 (doc_bad h2 hpw hqw hc (by rw [hnum, if_neg fun h => hv h.2]))
        · by_cases hl : e < t.length
          · rw [if_pos (by simp; omega)]
            refine ⟨by omega, by omega, ?_⟩
            rw [g_at]
            by_cases hx : g t e = 46
            · rw [if_pos (by simp [hx])]
              have hdot : isAt t e 46 = true := by simp [isAt, hl, hx]
              rw [if_pos hdot] at hnum
              refine Calls.then (rdotted_ok w4 t k (by omega) ht) ?_
              rintro v w5 ⟨hv, hc5⟩
              have h25 := h2.chg hc5
              have hc15 := hc.trans hc5
              exact take2 hv (fun kd e m ho => ret2 h25 (doc_ok h25 hpw hqw hc15 (hnum.trans ho))) (fun code e ho => ret2 h25 (doc_bad h25 hpw hqw hc15 (hnum.trans ho)))
            · rw [if_neg (by simp; omega)]
              exact ⟨(), trivial, rfl, by simp [isAt, hx]⟩
          · rw [if_neg (by simp; omega)]
            exact ⟨(), trivial, rfl, by simp [isAt, hl]⟩
    · rw [bs_size, g_at]
      by_cases hz : g t k = 48
      · rw [if_pos (by simp [hz])]
        by_cases hl : k + 1 < t.length
        · rw [if_pos (by simp; omega)]
          refine ⟨by omega, by omega, _, ⟨rfl, trivial⟩, rfl, ?_⟩
          rw [g_at]
          simp [isAt, hk, hl, hz]
          omega
        · rw [if_neg (by simp; omega)]
          exact ⟨false, ⟨rfl, trivial⟩, rfl, by simp [isAt, hl]⟩
      · rw [if_neg (by simp; omega)]
        exact ⟨false, ⟨rfl, trivial⟩, rfl, by simp [isAt, hz]⟩
end Go.Proofs.YtgoanblnkdihfaaGreatDoor.B

/-
  scan: the document's one.
-/
set_option maxRecDepth 100000
set_option linter.unusedVariables false
set_option linter.unusedSimpArgs false
set_option maxHeartbeats 400000
namespace Go.Proofs.YtgoanblnkdihfaaGreatDoor.B
open Go Go.Proofs Go.Proofs.YtgoanblnkdihfaaGreatDoorEng Go.RowKit

theorem cut_two {t : List UInt8} {k : Nat} (hl : k + 1 < t.length) (h0 : g t k = 58) (h1 : g t (k + 1) = 61) : cut t k (k + 2) = [58, 61] := by
  have hc := cut_length t k (k + 2) (by omega) (by omega)
  have e0 : g (cut t k (k + 2)) 0 = 58 := (cut_get t k (k + 2) 0 (by omega)).trans h0
  have e1 : g (cut t k (k + 2)) 1 = 61 := (cut_get t k (k + 2) 1 (by omega)).trans h1
  generalize cut t k (k + 2) = l at hc e0 e1
  match l, hc with
  | [a, b], _ =>
    have ha : a = 58 := UInt8.toNat_inj.1 e0
    have hb : b = 61 := UInt8.toNat_inj.1 e1
    rw [ha, hb]
  | [], h => simp at h
  | [_], h => simp at h
  | _ :: _ :: _ :: _, h => simp at h
theorem signs_at : ∀ i, i < 11 → byteAt { data := #[(43 : UInt8), (59 : UInt8), (42 : UInt8), (61 : UInt8), (33 : UInt8), (38 : UInt8), (124 : UInt8), (40 : UInt8), (41 : UInt8), (123 : UInt8), (125 : UInt8)] } ((i : Nat) : Int) = ((signs.getD i 0 : Nat) : Int) := by decide
theorem signs_mem : ∀ i, i < 11 → signs.getD i 0 ∈ signs := by decide
theorem rone_ok (w : World) (t : List UInt8) (k : Nat) (hk : k < t.length) (ht : t.length ≤ 65536) : Calls Tryz.prog 22 #[.string (bs t), .int .i64 (k : Int)] w (endW (DocR t k (oneAt t k) w) (fun _ _ => False)) := by
  refine F22_calls _ _ ?_
  delta F22
  obtain ⟨h2, hc⟩ := two_new w
  have hs : w.heap.size ≤ (w.alloc W39).heap.size := by rw [size_alloc]; omega
  have e1 : IntKind.wrap .i64 ((k : Int) + 1) = ((k + 1 : Nat) : Int) := by rw [i64w _ (by omega) (by omega)]; rfl
  change _ ∧ _ ∧ ∃ J : Unit → World → Prop, _ ∧ Calls _ _ _ ((w.alloc W39).alloc F29o) _
  generalize (w.alloc W39).alloc F29o = w1 at h2 hc ⊢
  generalize (w.alloc W39).heap.size = q at h2 hs ⊢
  generalize hp : w.heap.size = p at h2 hs ⊢
  have hpw : w.heap.size ≤ p := by omega
  have hqw : w.heap.size ≤ q := by omega
  rw [e1, bs_size, g_at]
  refine ⟨by omega, by omega, fun _ w' => w' = w1 ∧ ¬ ((pairsAt t k).isSome = true ∨ isDig (g t k) = true), ?_, ?_⟩
  · rintro _ w2 ⟨rfl, hno⟩ _
    have hone : oneAt t k = if isLet (g t k) = true then (if k + 32 < span isAl t k then .bad 3 (span isAl t k) else .ok 1 (span isAl t k) 0) else if g t k = 58 then (if isAt t (k + 1) 61 = true then .ok 3 (k + 2) 0 else .bad 150 (k + 1)) else if g t k ∈ signs then .ok 3 (k + 1) 0 else .bad 150 (k + 1) := if_neg hno
    refine Calls.then (rletter_ok w2 _) ?_
    rintro v w3 ⟨rfl, rfl⟩
    refine ⟨_, rfl, ?_⟩
    by_cases hlet : isLet (g t k) = true
    · rw [if_pos hlet]
      rw [if_pos hlet] at hone
      refine Calls.then (rend_ok w3 t k (by omega) ht) ?_
      rintro v w4 ⟨rfl, rfl⟩
      have hsp := span_le isAl t k
      generalize span isAl t k = e at hsp hone ⊢
      have hel := hsp.2 (by omega)
      have hle := hsp.1
      refine ⟨_, rfl, ?_⟩
      rw [i64w ((e : Int) - k) (by omega) (by omega), Int.toNat_natCast, Int.toNat_natCast, ext_cut]
      by_cases h32 : k + 32 < e
      · rw [if_pos (by simp; omega)]
        exact ⟨by omega, by omega, by omega, by omega, ret2 (h2.chg (chg_drew _ _)) (doc_bad (h2.chg (chg_drew _ _)) hpw hqw (hc.trans (chg_drew _ _)) (by rw [hone, if_pos h32]))⟩
      · rw [if_neg (by simp; omega)]
        refine ⟨by omega, by omega, by omega, by omega, ?_⟩
        have ho : oneAt t k = .ok 1 e 0 := by rw [hone, if_neg h32]
        first
          | exact ret2 h2 (doc_ok h2 hpw hqw hc ho)
          | exact ret2 (h2.chg (chg_drew _ _)) (doc_ok (h2.chg (chg_drew _ _)) hpw hqw (hc.trans (chg_drew _ _)) ho)
    · rw [if_neg hlet]
      rw [if_neg hlet] at hone
      refine ⟨fun _ w' => w' = w3 ∧ ¬ (g t k = 58 ∧ isAt t (k + 1) 61 = true), ?_, ?_⟩
      · rintro _ w4 ⟨rfl, hnc⟩ _
        refine ⟨fun s w' => ∃ i : Nat, s = (i : Int) ∧ i ≤ 11 ∧ w' = w4 ∧ ∀ j, j < i → signs.getD j 0 ≠ g t k, fun s _ => (11 - s).toNat, ⟨0, ⟨rfl, trivial⟩, 0, rfl, by omega, rfl, fun j hj => by omega⟩, ?_⟩
        rintro _ w5 ⟨i, rfl, hi, rfl, hne⟩ _
        rw [Int.toNat_natCast, Int.toNat_natCast, ext_cut]
        by_cases hlt : i < 11
        · rw [if_pos (by simp; omega)]
          refine ⟨by omega, by omega, ?_⟩
          rw [signs_at i hlt]
          by_cases hx : signs.getD i 0 = g t k
          · rw [if_pos (by simp only [hx]; simp)]
            refine ⟨by omega, by omega, by omega, by omega, ?_⟩
            have hmem : g t k ∈ signs := by
              rw [← hx]
              exact signs_mem i hlt
            have h58 : g t k ≠ 58 := fun h => by rw [h] at hmem; revert hmem; decide
            have ho : oneAt t k = .ok 3 (k + 1) 0 := by rw [hone, if_neg h58, if_pos hmem]
            first
              | exact ret2 h2 (doc_ok h2 hpw hqw hc ho)
              | exact ret2 (h2.chg (chg_drew _ _)) (doc_ok (h2.chg (chg_drew _ _)) hpw hqw (hc.trans (chg_drew _ _)) ho)
          · rw [if_neg (by rw [beq_iff_eq]; exact fun h => hx (Int.ofNat_inj.1 h))]
            exact ⟨((i + 1 : Nat) : Int), ⟨by rw [i64w _ (by omega) (by omega)]; rfl, trivial⟩, ⟨i + 1, rfl, by omega, rfl, fun j hj => by
              rcases Nat.lt_or_ge j i with h | h
              · exact hne j h
              · rw [show j = i from by omega]; exact hx⟩, by dsimp only; omega⟩
        · rw [if_neg (by simp; omega)]
          refine ⟨by omega, by omega, by omega, by omega, ?_⟩
          have hnm : ¬ g t k ∈ signs := fun h => by
            obtain ⟨j, hj, e⟩ := List.getElem_of_mem h
            have hj' : j < 11 := hj
            exact hne j (by omega) (by rw [List.getD_eq_getElem?_getD, List.getElem?_eq_getElem hj]; exact e)
          have ho : oneAt t k = .bad 150 (k + 1) := by
            rw [hone]
            by_cases h58 : g t k = 58
            · rw [if_pos h58, if_neg fun h => hnc ⟨h58, h⟩]
            · rw [if_neg h58, if_neg hnm]
          exact ret2 (h2.chg (chg_drew _ _)) (doc_bad (h2.chg (chg_drew _ _)) hpw hqw (hc.trans (chg_drew _ _)) ho)
      · by_cases h58 : g t k = 58
        · rw [if_pos (by simp [h58])]
          by_cases hl : k + 1 < t.length
          · rw [if_pos (by simp; omega)]
            refine ⟨by omega, by omega, ?_⟩
            rw [g_at]
            by_cases hx : g t (k + 1) = 61
            · rw [if_pos (by simp [hx])]
              have hcut := cut_two hl h58 hx
              have ho : oneAt t k = .ok 3 (k + 2) 0 := by rw [hone, if_pos h58, if_pos (by simp [isAt, hl, hx])]
              have hb : ({ data := #[58, 61] } : ByteArray) = bs (cut t k (k + 2)) := by rw [hcut]
              rw [hb]
              first
                | exact ret2 h2 (doc_ok h2 hpw hqw hc ho)
                | exact ret2 (h2.chg (chg_drew _ _)) (doc_ok (h2.chg (chg_drew _ _)) hpw hqw (hc.trans (chg_drew _ _)) ho)
            · rw [if_neg (by simp; omega)]
              exact ⟨(), trivial, rfl, fun h => by have := h.2; simp [isAt] at this; exact hx this.2⟩
          · rw [if_neg (by simp; omega)]
            exact ⟨(), trivial, rfl, fun h => by simp [isAt, hl] at h⟩
        · rw [if_neg (by simp; omega)]
          exact ⟨(), trivial, rfl, fun h => h58 h.1⟩
  · refine Calls.then (rpairs_ok w1 t k (by omega) ht) ?_
    rintro v w2 ⟨rfl, rfl⟩
    have num : ((pairsAt t k).isSome = true ∨ isDig (g t k) = true) → Calls Tryz.prog 34 #[.string (bs t), .int .i64 (k : Int)] w2 (endW (fun v w'' => v = docV t k (oneAt t k) ∧ Chg NoS w w'' ∧ Two w'' p q) (fun _ _ => False)) := fun h => by
      refine Calls.then (rnumber_ok w2 t k hk ht fun hn => by rcases h with h | h; (rw [hn] at h; cases h); exact h) ?_
      rintro v w3 ⟨rfl, hc3⟩
      exact ⟨by rw [show oneAt t k = numAt t k from if_pos h], hc.trans hc3, h2.chg hc3⟩
    cases hpr : pairsAt t k with
    | some x =>
      obtain ⟨m, e⟩ := x
      refine ⟨_, rfl, _, _, rfl, _, rfl, _, _, rfl, _, rfl, _, _, rfl, _, rfl, rfl, ?_⟩
      rw [if_neg (by decide)]
      refine Calls.then (num (.inl (by rw [hpr]; rfl))) ?_
      rintro v w3 ⟨hv, hc3, h23⟩
      exact take2 hv (fun kd e m ho => ret2 h23 (doc_ok h23 hpw hqw hc3 ho)) (fun code e ho => ret2 h23 (doc_bad h23 hpw hqw hc3 ho))
    | none =>
      refine ⟨_, rfl, _, _, rfl, _, rfl, _, _, rfl, _, rfl, _, _, rfl, _, rfl, rfl, ?_⟩
      rw [if_pos rfl]
      refine Calls.then (rdigit_ok w2 _) ?_
      rintro v w3 ⟨rfl, rfl⟩
      refine ⟨_, rfl, ?_⟩
      by_cases hd : isDig (g t k) = true
      · rw [if_pos hd]
        refine Calls.then (num (.inr hd)) ?_
        rintro v w4 ⟨hv, hc3, h23⟩
        exact take2 hv (fun kd e m ho => ret2 h23 (doc_ok h23 hpw hqw hc3 ho)) (fun code e ho => ret2 h23 (doc_bad h23 hpw hqw hc3 ho))
      · rw [if_neg hd]
        exact ⟨(), trivial, rfl, fun h => by rcases h with h | h; (simp at h); exact hd h⟩
end Go.Proofs.YtgoanblnkdihfaaGreatDoor.B

/-
  scan: the document's All.
-/
set_option maxRecDepth 100000
set_option linter.unusedVariables false
set_option linter.unusedSimpArgs false
set_option maxHeartbeats 400000
namespace Go.Proofs.YtgoanblnkdihfaaGreatDoor.B
open Go Go.Proofs Go.Proofs.YtgoanblnkdihfaaGreatDoorEng Go.RowKit

/-- the words from a place on hang on what stands behind blanks and remarks -/
theorem scan_sk {t : List UInt8} {a b : Nat} {ws : List Wd} (h : sk t false a = sk t false b) : scan t a ws = scan t b ws := by
  rw [scan.eq_1 t a ws, scan.eq_1 t b ws]
  simp only [h]
/-- what the document's All answers -/
def RAllV (w0 : World) (o : List Wd ⊕ (Nat × Nat × List UInt8)) (v : Value) (w' : World) : Prop := Chg NoS w0 w' ∧ (match o with
  | .inl ws => ∃ a n c, v = .tuple #[.slice a n c, .agg #[.int .i64 0, .int .i64 0, .string ⟨#[]⟩]] ∧ w'.ownsRow w0.heap.size 42 4 (.slice a n c) n (wcells ws) ∧ n = ws.length
  | .inr x => v = .tuple #[.slice none 0 0, .agg #[.int .i64 (x.1 : Int), .int .i64 (x.2.1 : Int), .string (bs x.2.2)]])
/-- the fault's own cells, written and read back -/
theorem retF {w : World} {q : Nat} (hq : ∃ d0 d1 d2, w.heap[q]? = some (.cells #[d0, d1, d2] 38 (0, 0))) {e f : Int} {u : ByteArray} {R : Int → Int → ByteArray → World → Prop} (h : ∀ w', Chg (fun b => b = q) w w' → R e f u w') :
    setW w (addK ⟨q, 0, none⟩ 0) (.int .i64 e) fun w => setW w (addK ⟨q, 0, none⟩ 1) (.int .i64 f) fun w => setW w (addK ⟨q, 0, none⟩ 2) (.string u) fun w =>
      ∃ x3 : Int, w.cell? (addK ⟨q, 0, none⟩ 0) = some (.int .i64 x3) ∧ ∃ x4 : Int, w.cell? (addK ⟨q, 0, none⟩ 1) = some (.int .i64 x4) ∧ ∃ s1 : ByteArray, w.cell? (addK ⟨q, 0, none⟩ 2) = some (.string s1) ∧ R x3 x4 s1 w := by
  obtain ⟨d0, d1, d2, hq⟩ := hq
  refine (sets_blk (b := q) (t := 38) (cs := #[d0, d1, d2]) (vs := [.int .i64 e, .int .i64 f, .string u]) hq rfl (by simp [oneC]) fun w2 b2 cc2 z2 => ?_ : setsW _ _ _ _ _)
  have m : ∀ (j : Nat) v, (#[.int .i64 e, .int .i64 f, .string u] : Array Value)[j]? = some v → w2.cell? (addK ⟨q, 0, none⟩ j) = some v := fun j v hv => by rw [addK_lit, Nat.zero_add, cell_blk b2]; exact hv
  exact ⟨_, m 0 _ rfl, _, m 1 _ rfl, _, m 2 _ rfl, h w2 cc2⟩
theorem rAll_long (w : World) (t : List UInt8) (ht : 65536 < t.length) : Calls Tryz.prog 8 #[.string (bs t)] w (endW (RAllV w (allR t)) (fun _ _ => False)) := by
  refine F8_calls _ ?_
  delta F8
  rw [bs_size, if_pos (by simp; omega)]
  have hr : allR t = .inr (3, 0, []) := by unfold allR; rw [if_pos (by omega)]
  rw [hr]
  refine retF (R := fun x x1 s w' => RAllV w (.inr (3, 0, [])) (.tuple #[.slice none 0 0, .agg #[.int .i64 x, .int .i64 x1, .string s]]) w') ⟨_, _, _, blk_alloc w F29o⟩ fun w' hc => ?_
  exact ⟨(chg_alloc w F29o NoS).trans2 hc fun b hb hx => by have : b = w.heap.size := hx; omega, rfl⟩
/-- a remark's end -/
theorem sk_true_end {t : List UInt8} {b : Nat} (h : ¬ b < t.length ∨ g t b = 10) : sk t true b = sk t false b := by
  by_cases hl : b < t.length
  · have hx : g t b = 10 := by rcases h with h | h; exact absurd hl h; exact h
    rw [sk_nl hl hx, sk_nl hl hx]
  · rw [sk_end hl, sk_end hl]
end Go.Proofs.YtgoanblnkdihfaaGreatDoor.B

/-
  scan: the document's All, its loop.
-/
set_option maxRecDepth 100000
set_option linter.unusedVariables false
set_option linter.unusedSimpArgs false
set_option maxHeartbeats 400000
namespace Go.Proofs.YtgoanblnkdihfaaGreatDoor.B
open Go Go.Proofs Go.Proofs.YtgoanblnkdihfaaGreatDoorEng Go.RowKit

/-- what the loop keeps: the row so far, the fault's cells, the words still to come -/
def RLoop (w0 : World) (q : Nat) (t : List UInt8) (a : Option Addr) (n c k : Nat) (w : World) : Prop :=
  ∃ ws : List Wd, w.ownsRow (q + 1) 42 4 (.slice a n c) n (wcells ws) ∧ n = ws.length ∧ n ≤ k ∧ k ≤ t.length ∧ Chg NoS w0 w ∧ (∃ d0 d1 d2, w.heap[q]? = some (.cells #[d0, d1, d2] 38 (0, 0))) ∧ q + 1 ≤ w.heap.size ∧ scan t 0 [] = scan t k ws
theorem RLoop.next {w0 w : World} {q n c k j : Nat} {t : List UInt8} {a : Option Addr} (h : RLoop w0 q t a n c k w) (hs : sk t false k = sk t false j) (hk : k ≤ j) (hj : j ≤ t.length) : RLoop w0 q t a n c j w := by
  obtain ⟨ws, h1, h2, h3, h4, h5, h6, h7, h8⟩ := h
  exact ⟨ws, h1, h2, by omega, hj, h5, h6, h7, by rw [h8, scan_sk hs]⟩
theorem closed_bad0 {t : List UInt8} {e m c j : Nat} (h : closedAt t e m = .bad c j) : c ≠ 0 := by
  unfold closedAt at h
  split at h <;> cases h
  decide
theorem dots_bad0 {t : List UInt8} {c j : Nat} : ∀ (n i at_ m : Nat), 4 - i ≤ n → dots t i at_ m = .bad c j → c ≠ 0
  | n, i, at_, m, hn, h => by
    rw [dots] at h
    split at h
    · split at h
      · dsimp only at h
        generalize (if i = 0 then at_ else at_ + 1) = b at h
        split at h
        · cases n with
          | zero => omega
          | succ n => exact dots_bad0 n _ _ _ (by omega) h
        · cases h; decide
      · cases h; decide
    · exact closed_bad0 h
theorem one_bad0 {t : List UInt8} {k c j : Nat} (h : oneAt t k = .bad c j) : c ≠ 0 := by
  unfold oneAt at h
  split at h
  · unfold numAt at h
    split at h
    · exact closed_bad0 h
    · split at h
      · unfold hexNum at h
        split at h
        · exact closed_bad0 h
        · cases h; decide
      · split at h
        · exact dots_bad0 4 _ _ _ (by omega) h
        · unfold decNum at h
          split at h
          · split at h
            · cases h; decide
            · exact closed_bad0 h
          · cases h; decide
  · repeat' split at h
    all_goals first | (cases h; decide) | cases h
theorem push2 {w : World} {base n : Nat} {v : Value} {ws : List Wd} {x : Wd} {K : Value → World → Prop} {E : PanW} (ho : w.ownsRow base 42 4 v n (wcells ws)) (hn : n ≤ 1000000) (hbase : base ≤ w.heap.size)
    (hK : ∀ a' c' w', w'.ownsRow base 42 4 (.slice a' (n + 1) c') (n + 1) (wcells (ws ++ [x])) → Chg (fun k => v.ownBlock = some k) w w' → K (.slice a' (n + 1) c') w') :
    runV Tryz.prog (Builtin.append_ #[35, 35] 35 #[v, .slice (some ⟨w.heap.size, 0, none⟩) 1 1]) (w.alloc (wobj x)) K E := by
  have hca := chg_alloc w (wobj x) NoS
  refine row_append (z := .agg #[.int .i8 0, .string ⟨#[]⟩, .int .u64 0, .int .i64 0]) (size := 4) (bytes := 40) (base := base) (news := [.int .i8 (x.kind : Int), .string (bs x.txt), .int .u64 (x.num : Int), .int .i64 (x.pos : Int)]) Tryz.underlying35 Tryz.underlying35 info39 rfl (own_of_chg ho hca fun _ _ x => x) rfl (reads_lit (blk_alloc w _)) (fun e => by cases e) (fun u hu => ?_) (by omega) (by omega) (by rw [size_alloc]; omega) ?_
  · simp only [List.mem_cons, List.mem_nil_iff, or_false] at hu
    rcases hu with rfl | rfl | rfl | rfl <;> rfl
  intro a' c' w' ho' hc' hb'
  refine hK a' c' w' (by rw [wcells_append]; exact ho') ?_
  exact (hca.mono fun _ _ x => x.elim).trans hc'
theorem put2 {w : World} {p q : Nat} (h2 : Two w p q) {a n z e f : Int} {s u : ByteArray} {K : World → Prop} (h : ∀ w', Chg (fun b => b = p ∨ b = q) w w' → w'.heap[p]? = some (.cells #[.int .i8 a, .string s, .int .u64 n, .int .i64 z] 42 (0, 0)) → w'.heap[q]? = some (.cells #[.int .i64 e, .int .i64 f, .string u] 38 (0, 0)) → K w') :
    setW w (addK ⟨p, 0, none⟩ 0) (.int .i8 a) fun w => setW w (addK ⟨p, 0, none⟩ 1) (.string s) fun w => setW w (addK ⟨p, 0, none⟩ 2) (.int .u64 n) fun w => setW w (addK ⟨p, 0, none⟩ 3) (.int .i64 z) fun w =>
      setW w (addK ⟨q, 0, none⟩ 0) (.int .i64 e) fun w => setW w (addK ⟨q, 0, none⟩ 1) (.int .i64 f) fun w => setW w (addK ⟨q, 0, none⟩ 2) (.string u) K := by
  obtain ⟨⟨c0, c1, c2, c3, hp⟩, ⟨d0, d1, d2, hq⟩, hpq⟩ := h2
  refine (sets_blk (b := p) (t := 42) (cs := #[c0, c1, c2, c3]) (vs := [.int .i8 a, .string s, .int .u64 n, .int .i64 z]) hp rfl (by simp [oneC]) fun w1 b1 cc1 z1 => ?_ : setsW _ _ _ _ _)
  have hq1 := cc1.blk hq (fun e => hpq e.symm)
  refine (sets_blk (b := q) (t := 38) (cs := #[d0, d1, d2]) (vs := [.int .i64 e, .int .i64 f, .string u]) hq1 rfl (by simp [oneC]) fun w2 b2 cc2 z2 => ?_ : setsW _ _ _ _ _)
  exact h w2 ((cc1.mono fun b _ hb => .inl hb).trans (cc2.mono fun b _ hb => .inr hb)) (cc2.blk b1 hpq) b2
theorem cellAt {w : World} {p t : Nat} {cs : Array Value} {sz : Nat × Nat} (hp : w.heap[p]? = some (.cells cs t sz)) (j : Nat) (v : Value) (hv : cs[j]? = some v) : w.cell? (addK ⟨p, 0, none⟩ j) = some v := by rw [addK_lit, Nat.zero_add, cell_blk hp]; exact hv
theorem rAll_ok (w : World) (t : List UInt8) : Calls Tryz.prog 8 #[.string (bs t)] w (endW (RAllV w (allR t)) (fun _ _ => False)) := by
  by_cases hlong : 65536 < t.length
  · exact rAll_long w t hlong
  have ht : t.length ≤ 65536 := by omega
  refine F8_calls _ ?_
  delta F8
  rw [bs_size, if_neg (by simp; omega)]
  have hb := blk_alloc w F29o
  have hc := chg_alloc w F29o NoS
  have hs : (w.alloc F29o).heap.size = w.heap.size + 1 := size_alloc w F29o
  change ∃ I : Option Addr × Nat × Nat × Int → World → Prop, ∃ μ : Option Addr × Nat × Nat × Int → World → Nat, (∃ s, _ ∧ I s (w.alloc F29o)) ∧ _
  generalize w.alloc F29o = w1 at hb hc hs ⊢
  refine ⟨fun s w' => ∃ k : Nat, s.2.2.2 = (k : Int) ∧ RLoop w w.heap.size t s.1 s.2.1 s.2.2.1 k w', fun s _ => (t.length - s.2.2.2).toNat, ⟨(none, 0, 0, 0), ⟨rfl, rfl, trivial⟩, 0, rfl, [], own_nil' _ _ _ _, rfl, Nat.le_refl 0, by omega, hc, ⟨_, _, _, hb⟩, by omega, rfl⟩, ?_⟩
  rintro ⟨a, n, c, z⟩ w2 ⟨k, hz, hl⟩ _
  dsimp only at hz hl ⊢
  subst hz
  by_cases hlt : k < t.length
  · rw [if_pos (by simp; omega)]
    refine ⟨by omega, by omega, ?_⟩
    rw [g_at]
    refine ⟨fun s w' => s = (k : Int) ∧ w' = w2 ∧ ¬ (g t k = 32 ∨ g t k = 9 ∨ g t k = 10 ∨ g t k = 13), ?_, ?_⟩
    · rintro _ w3 ⟨rfl, rfl, hnb⟩ _
      by_cases hh : g t k = 35
      · rw [if_pos (by simp [hh])]
        refine ⟨fun s w' => ∃ b : Nat, s = (b : Int) ∧ k ≤ b ∧ b ≤ t.length ∧ w' = w3 ∧ (k < b → sk t false k = sk t true b), fun s _ => (t.length - s).toNat, ⟨(k : Int), ⟨rfl, trivial⟩, k, rfl, by omega, by omega, rfl, fun h => by omega⟩, ?_⟩
        rintro _ w4 ⟨b, rfl, hkb, hbl, rfl, hsk⟩ _
        have out : (¬ b < t.length ∨ g t b = 10) → ∃ s' : Option Addr × Nat × Nat × Int, (Value.slice s'.1 s'.2.1 s'.2.2.1 = .slice a n c ∧ Value.int .i64 s'.2.2.2 = .int .i64 (b : Int) ∧ True) ∧ (∃ k : Nat, s'.2.2.2 = (k : Int) ∧ RLoop w w.heap.size t s'.1 s'.2.1 s'.2.2.1 k w4) ∧ (t.length - s'.2.2.2).toNat < (t.length - (k : Int)).toNat := fun h => by
          have hlb : k < b := by
            rcases Nat.lt_or_ge k b with h' | h'
            · exact h'
            · have : b = k := by omega
              subst this
              rcases h with h | h
              · exact absurd hlt h
              · omega
          exact ⟨(a, n, c, (b : Int)), ⟨rfl, rfl, trivial⟩, ⟨b, rfl, hl.next (by rw [hsk hlb, sk_true_end h]) hkb hbl⟩, by dsimp only; omega⟩
        by_cases hbt : b < t.length
        · rw [if_pos (by simp; omega)]
          refine ⟨by omega, by omega, ?_⟩
          rw [g_at]
          by_cases hx : g t b = 10
          · rw [if_neg (by simp [hx])]
            exact out (.inr hx)
          · rw [if_pos (by simp; omega)]
            refine ⟨((b + 1 : Nat) : Int), ⟨by rw [i64w _ (by omega) (by omega)]; rfl, trivial⟩, ⟨b + 1, rfl, by omega, by omega, rfl, fun _ => ?_⟩, by dsimp only; omega⟩
            rcases Nat.lt_or_ge k b with h | h
            · rw [hsk h, sk_rem hbt hx]
            · have : b = k := by omega
              subst this
              exact sk_hash hlt hh
        · rw [if_neg (by simp; omega)]
          exact out (.inl hbt)
      · rw [if_neg (by simp; omega)]
        have hst := sk_stop hlt (by omega) (by omega) hh
        refine Calls.then (rone_ok w3 t k hlt ht) ?_
        rintro v w4 ⟨hv, hc4⟩
        obtain ⟨h24, hcn⟩ := two_new w4
        obtain ⟨ws, h1, h2, h3, h4, h5, h6, h7, h8⟩ := hl
        refine take2 hv (fun kd e m ho => put2 h24 fun w5 hc5 hp5 hq5 => ?_) (fun code e ho => put2 h24 fun w5 hc5 hp5 hq5 => ?_)
        · have hol := one_le ho hlt
          have hz4 := hc4.size
          have hc35 : Chg NoS w3 w5 := (hc4.trans hcn).trans2 hc5 fun b hb hx => by rcases hx with rfl | rfl; omega; rw [size_alloc] at hb; omega
          have hz5 := hc35.size
          refine ⟨_, cellAt hq5 0 _ rfl, ?_⟩
          rw [if_neg (by decide)]
          refine ⟨_, cellAt hp5 0 _ rfl, _, cellAt hp5 1 _ rfl, _, cellAt hp5 2 _ rfl, _, cellAt hp5 3 _ rfl, ?_⟩
          refine push2 (x := ⟨kd, cut t k e, m, k⟩) (own_of_chg h1 hc35 fun _ _ x => x) (by omega) (by omega) ?_
          intro a' c' w6 ho6 hc6
          have hpb : ∀ b, (Value.slice a n c).ownBlock = some b → b < w3.heap.size ∧ w.heap.size + 1 ≤ b := fun b hb => own_lt' h1 hb
          have hp6 := hc6.blk hp5 fun hb => by have := (hpb _ hb).1; omega
          refine ⟨_, _, _, rfl, _, cellAt hp6 1 _ rfl, ?_⟩
          have hcl := cut_length t k e (by omega) (by omega)
          have h6' : ∃ d0 d1 d2, w6.heap[w.heap.size]? = some (.cells #[d0, d1, d2] 38 (0, 0)) := by
            obtain ⟨d0, d1, d2, h⟩ := h6
            exact ⟨d0, d1, d2, hc6.blk (hc35.blk h fun x => x) fun hb => by have := (hpb _ hb).2; omega⟩
          have hz6 := hc6.size
          exact ⟨(a', n + 1, c', (e : Int)), ⟨rfl, by rw [bs_size, hcl, i64w _ (by omega) (by omega), show (k : Int) + ((e - k : Nat) : Int) = (e : Int) from by omega], trivial⟩, ⟨e, rfl, ws ++ [⟨kd, cut t k e, m, k⟩], ho6, by simp [h2], (by omega : n + 1 ≤ e), by omega, (h5.trans hc35).trans2 hc6 fun b hb hx => by have := (hpb _ hx).2; omega, h6', by omega, by rw [h8, scan_go (by rw [hst]; exact hlt) (by rw [hst]; exact ho), hst]⟩, by dsimp only; omega⟩
        · have hb0 : code ≠ 0 := one_bad0 ho
          have hz4 := hc4.size
          have hc35 : Chg NoS w3 w5 := (hc4.trans hcn).trans2 hc5 fun b hb hx => by rcases hx with rfl | rfl; omega; rw [size_alloc] at hb; omega
          refine ⟨_, cellAt hq5 0 _ rfl, ?_⟩
          rw [if_pos (by simp; exact hb0)]
          refine ⟨_, cellAt (w := w5.drew) hq5 0 _ rfl, _, cellAt (w := w5.drew) hq5 1 _ rfl, _, cellAt (w := w5.drew) hq5 2 _ rfl, ?_⟩
          have h6' : ∃ d0 d1 d2, w5.drew.heap[w.heap.size]? = some (.cells #[d0, d1, d2] 38 (0, 0)) := by
            obtain ⟨d0, d1, d2, h⟩ := h6
            exact ⟨d0, d1, d2, hc35.blk h fun x => x⟩
          refine retF (R := fun x x1 s w' => RAllV w (allR t) (.tuple #[.slice none 0 0, .agg #[.int .i64 x, .int .i64 x1, .string s]]) w') h6' fun w6 hc6 => ?_
          have hr : allR t = .inr (code, k, cut t k e) := by
            unfold allR
            rw [if_neg (by omega), h8, scan_bad (by rw [hst]; exact hlt) (by rw [hst]; exact ho), hst]
          rw [hr]
          exact ⟨((h5.trans hc35).trans (chg_drew _ _)).trans2 hc6 fun b hb hx => by have : b = w.heap.size := hx; omega, rfl⟩
    · have step : (g t k = 32 ∨ g t k = 9 ∨ g t k = 10 ∨ g t k = 13) → ∃ s' : Option Addr × Nat × Nat × Int, (Value.slice s'.1 s'.2.1 s'.2.2.1 = .slice a n c ∧ Value.int .i64 s'.2.2.2 = .int .i64 (IntKind.wrap .i64 ((k : Int) + 1)) ∧ True) ∧ (∃ k : Nat, s'.2.2.2 = (k : Int) ∧ RLoop w w.heap.size t s'.1 s'.2.1 s'.2.2.1 k w2) ∧ (t.length - s'.2.2.2).toNat < (t.length - (k : Int)).toNat := fun h => by
        refine ⟨(a, n, c, ((k + 1 : Nat) : Int)), ⟨rfl, by rw [i64w _ (by omega) (by omega)]; rfl, trivial⟩, ⟨k + 1, rfl, hl.next ?_ (by omega) (by omega)⟩, by dsimp only; omega⟩
        by_cases h10 : g t k = 10
        · exact sk_nl hlt h10
        · exact sk_blank hlt (by omega)
      by_cases h32 : g t k = 32
      · rw [if_neg (by simp [h32])]
        exact step (by omega)
      rw [if_pos (by simp; omega)]
      by_cases h9 : g t k = 9
      · rw [if_neg (by simp [h9])]
        exact step (by omega)
      rw [if_pos (by simp; omega)]
      by_cases h10 : g t k = 10
      · rw [if_neg (by simp [h10])]
        exact step (by omega)
      rw [if_pos (by simp; omega)]
      by_cases h13 : g t k = 13
      · rw [if_pos (by simp [h13])]
        exact step (by omega)
      rw [if_neg (by simp; omega)]
      exact ⟨(k : Int), ⟨rfl, trivial⟩, rfl, rfl, by omega⟩
  · rw [if_neg (by simp; omega)]
    obtain ⟨ws, h1, h2, h3, h4, h5, h6, h7, h8⟩ := hl
    refine push_ok (x := ⟨0, [], 0, t.length⟩) h1 (by omega) h7 ?_
    intro a' c' w3 ho3 hc3
    refine ⟨_, _, _, rfl, ?_⟩
    have hF : ∃ d0 d1 d2, w3.heap[w.heap.size]? = some (.cells #[d0, d1, d2] 38 (0, 0)) := by
      obtain ⟨d0, d1, d2, h⟩ := h6
      exact ⟨d0, d1, d2, hc3.blk h (by omega)⟩
    refine retF (R := fun x x1 s w' => RAllV w (allR t) (.tuple #[.slice a' (n + 1) c', .agg #[.int .i64 x, .int .i64 x1, .string s]]) w') hF fun w4 hc4 => ?_
    have hr : allR t = .inl (ws ++ [⟨0, [], 0, t.length⟩]) := by
      unfold allR
      rw [if_neg (by omega), h8, scan_end (by rw [sk_end hlt]; exact hlt)]
    rw [hr]
    have ho4 := own_of_chg ho3 hc4 fun b hb hx => by have h' := (own_lt' ho3 hb).2; have : b = w.heap.size := hx; omega
    exact ⟨(h5.trans2 hc3 fun b hb hx => by omega).trans2 hc4 fun b hb hx => by have : b = w.heap.size := hx; omega, a', n + 1, c', rfl, own_base' ho4 (fun b hb => by have := (own_lt' ho4 hb).2; omega), by simp [h2]⟩
end Go.Proofs.YtgoanblnkdihfaaGreatDoor.B

