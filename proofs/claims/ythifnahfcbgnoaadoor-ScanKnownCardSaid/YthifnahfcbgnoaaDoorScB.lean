/-
  scan: ParseUint, of digits, at base 10 and 16.
-/
import Derived.Test.YthifnahfcbgnoaaDoorScA
import Derived.Test.YthifnahfcbgnoaaDoorBB
import Derived.Test.YthifnahfcbgnoaaDoorShelf
import Derived.Laws.IdiomStrings
set_option maxRecDepth 100000
set_option linter.unusedVariables false
set_option linter.unusedSimpArgs false
namespace Go.Proofs.YthifnahfcbgnoaaDoor.B
open Go Go.Proofs Go.Proofs.YthifnahfcbgnoaaDoorEng Go.RowKit

theorem conv_bytes {w : World} {l : List UInt8} {K : Value → World → Prop} {E : PanW}
    (hK : ∀ c w', Chg NoS w w' → (∀ j, j < l.length → w'.cell? (addK ⟨w.heap.size, 0, none⟩ j) = some (.int .u8 (g l j : Nat))) → w.heap.size < w'.heap.size → K (.slice (some ⟨w.heap.size, 0, none⟩) l.length c) w') :
    runV Tryd.prog (convert 9 108 (.string (bs l))) w K E := by
  have hr := run_bytes_of_string (P := Tryd.prog) w 9 108 5 (bs l) Tryd.underlying9 Tryd.underlying108 Tryd.underlying5
  refine runV_of_ok hr ?_
  rw [bs_size]
  refine hK _ _ ((chg_drew w NoS).trans (chg_alloc w.drew _ _)) (fun j hj => ?_) (by rw [size_alloc, size_drew]; omega)
  rw [addK_lit, Nat.zero_add]
  refine (cell_blk (blk_alloc w.drew _) j).trans ?_
  rw [bytesRow_at (bs l) _ j (by simpa [bs] using hj)]
  simp [bs, g, List.getD_eq_getElem?_getD, hj]

/-! ### what digits say -/
def vals (b : Nat) (l : List UInt8) : Nat := l.foldl (fun n c => n * b + hv c.toNat) 0
theorem vals_take {b : Nat} {l : List UInt8} {i : Nat} (h : i < l.length) : vals b (l.take (i + 1)) = vals b (l.take i) * b + hv (g l i) := by
  unfold vals g
  rw [List.take_add_one, List.foldl_append]
  simp [List.getD_eq_getElem?_getD, h]
theorem fold_le {b : Nat} (hb : 0 < b) : ∀ (l : List UInt8) (n : Nat), n ≤ l.foldl (fun n c => n * b + hv c.toNat) n
  | [], n => Nat.le_refl _
  | c :: l, n => Nat.le_trans (Nat.le_trans (Nat.le_mul_of_pos_right n hb) (Nat.le_add_right _ _)) (fold_le hb l _)
theorem vals_le {b : Nat} (hb : 0 < b) (l : List UInt8) (i : Nat) : vals b (l.take i) ≤ vals b l := by
  unfold vals
  conv => rhs; rw [← List.take_append_drop i l, List.foldl_append]
  exact fold_le hb _ _
/-- a digit at the base -/
def okD (b : Nat) (c : Nat) : Bool := if b = 10 then isDig c else isHex c
theorem okD_hex {b c : Nat} (h : okD b c = true) : isHex c = true := by
  unfold okD at h
  split at h
  · simp only [isDig, decide_eq_true_eq] at h; simp [isHex]; omega
  · exact h
theorem okD_lt {b c : Nat} (hb : b = 10 ∨ b = 16) (h : okD b c = true) : hv c < b := by
  unfold okD at h
  split at h
  · rename_i hb'
    simp only [isDig, decide_eq_true_eq] at h
    unfold hv
    rw [if_pos (by omega)]
    omega
  · have := hv_lt h
    omega
theorem low_hex : ∀ c, c < 256 → isHex c = true → ¬ (48 ≤ c ∧ c ≤ 57) → (BitVec.ofInt 8 (c : Int) ||| BitVec.ofInt 8 32).toNat = hv c + 87 := by decide
theorem lower_ok (w : World) (c : Nat) : Calls Tryd.prog 52 #[.int .u8 (c : Int)] w (endW (fun v w' => v = .int .u8 (IntKind.wrap .u8 ((BitVec.ofInt 8 (c : Int) ||| BitVec.ofInt 8 32).toNat : Int)) ∧ w' = w) (fun _ _ => False)) := by
  refine F52_calls _ ?_
  delta F52
  exact ⟨rfl, rfl⟩
theorem wrap_u64 (n : Int) : IntKind.wrap .u64 n = n % 18446744073709551616 := IntKind.wrap_u64 n
def maxOf (bits : Nat) : Nat := if bits = 64 then 18446744073709551615 else 255
theorem max_val {bits : Nat} (hb : bits = 8 ∨ bits = 64) : IntKind.wrap .u64 (IntKind.wrap .u64 (1 * (2 : Int) ^ min (IntKind.wrap .u64 (bits : Int)).toNat 64) - 1) = ((maxOf bits : Nat) : Int) := by
  rcases hb with rfl | rfl <;> rfl
theorem iParse_ok (w : World) (l : List UInt8) (b bits : Nat) (hb : b = 10 ∨ b = 16) (hbits : bits = 8 ∨ bits = 64) (hl : ∀ j, j < l.length → okD b (g l j) = true) (hlen : l.length ≤ 65536) :
    Calls Tryd.prog 50 #[.string (bs l), .int .i64 (b : Int), .int .i64 (bits : Int)] w (endW (fun v w' => ((l ≠ [] ∧ vals b l ≤ maxOf bits ∧ v = .tuple #[.int .u64 (vals b l : Nat), .nilIface]) ∨ (¬ (l ≠ [] ∧ vals b l ≤ maxOf bits) ∧ ∃ (x k : Int), (k = 1 ∨ k = 2) ∧ v = .tuple #[.int .u64 x, .iface 106 (.int .i64 k)])) ∧ Chg NoS w w') (fun _ _ => False)) := by
  refine F50_calls _ _ _ ?_
  delta F50
  rw [show ({ data := #[] } : ByteArray) = bs [] from rfl, bs_beq]
  by_cases h0 : l = []
  · rw [if_pos (by simp [h0])]
    exact ⟨.inr ⟨fun h => h.1 h0, 0, 2, .inr rfl, rfl⟩, Chg.refl _ _⟩
  rw [if_neg (by simp [h0])]
  have hb0 : 0 < b := by omega
  refine ⟨fun s w' => s = (bs l, (b : Int)) ∧ w' = w, ?_, ?_⟩
  · rintro _ w0 ⟨rfl, rfl⟩ _
    refine ⟨fun s w' => s = (bits : Int) ∧ w' = w0, ?_, ?_⟩
    · rintro _ w1 ⟨rfl, rfl⟩ _
      refine ⟨fun s w' => s = (if b = 10 then (1844674407370955162 : Int) else 1152921504606846976) ∧ w' = w1, ?_, ?_⟩
      · rintro _ w2 ⟨rfl, rfl⟩ _
        refine ⟨by rw [wrap_u64]; omega, ?_⟩
        refine conv_bytes fun c w3 hc3 hcell hsz => ?_
        refine ⟨_, _, _, rfl, ?_⟩
        dsimp only
        rw [max_val hbits]
        have bad : ¬ vals b l ≤ maxOf bits → ∀ (x : Int), (fun (v : Value) (w' : World) => ((l ≠ [] ∧ vals b l ≤ maxOf bits ∧ v = .tuple #[.int .u64 (vals b l : Nat), .nilIface]) ∨ (¬ (l ≠ [] ∧ vals b l ≤ maxOf bits) ∧ ∃ (x k : Int), (k = 1 ∨ k = 2) ∧ v = .tuple #[.int .u64 x, .iface 106 (.int .i64 k)])) ∧ Chg NoS w2 w') (.tuple #[.int .u64 x, .iface 106 (.int .i64 1)]) w3 := fun h x => ⟨.inr ⟨fun hh => h hh.2, x, 1, .inl rfl, rfl⟩, hc3⟩
        refine ⟨fun s w' => ∃ i n : Nat, s = (false, (n : Int), (i : Int)) ∧ i ≤ l.length ∧ n = vals b (l.take i) ∧ n ≤ maxOf bits ∧ w' = w3, fun s _ => (l.length - s.2.2).toNat, ⟨(false, 0, 0), ⟨rfl, rfl, rfl, trivial⟩, 0, 0, rfl, by omega, by simp [vals], by omega, rfl⟩, ?_⟩
        rintro _ w4 ⟨i, n, rfl, hi, hn, hmax, rfl⟩ _
        dsimp only
        by_cases hlt : i < l.length
        · rw [if_pos (by simp; omega)]
          refine ⟨by omega, by omega, ?_⟩
          refine ⟨(g l i : Nat), by rw [Int.toNat_natCast, Nat.mul_one]; exact hcell i hlt, ?_⟩
          have hd := hl i hlt
          have hhex := okD_hex hd
          have hdl := okD_lt hb hd
          have hg := g_lt l i
          generalize hc : g l i = c at *
          have hM : maxOf bits ≤ 18446744073709551615 := by unfold maxOf; split <;> omega
          have htk := vals_take (b := b) hlt
          rw [hc, ← hn] at htk
          have hle := vals_le hb0 l (i + 1)
          rw [htk] at hle
          refine ⟨fun s w' => s = (false, (hv c : Int)) ∧ w' = w4, ?_, ?_⟩
          · rintro _ w5 ⟨rfl, rfl⟩ _
            dsimp only
            have eb : IntKind.wrap .u8 (b : Int) = (b : Int) := IntWalk.u8_in _ (by omega)
            have eb6 : IntKind.wrap .u64 (b : Int) = (b : Int) := by rw [wrap_u64]; omega
            have ed : IntKind.wrap .u64 (hv c : Int) = (hv c : Int) := by rw [wrap_u64]; omega
            rw [eb, eb6, ed]
            rw [if_neg (by simp; omega)]
            have hcut : (decide ((n : Int) ≥ if b = 10 then (1844674407370955162 : Int) else 1152921504606846976) = true) ↔ 18446744073709551616 ≤ n * b := by
              rw [decide_eq_true_eq]
              rcases hb with rfl | rfl
              · rw [if_pos rfl]; omega
              · rw [if_neg (by decide)]; omega
            by_cases hcu : 18446744073709551616 ≤ n * b
            · rw [if_pos (hcut.2 hcu)]
              exact bad (by omega) _
            · rw [if_neg (fun h => hcu (hcut.1 h))]
              have e1 : IntKind.wrap .u64 ((n : Int) * (b : Int)) = ((n * b : Nat) : Int) := by rw [wrap_u64, ← Int.natCast_mul]; omega
              rw [e1]
              generalize hq : n * b = q at hle htk hcu ⊢
              have e2 : IntKind.wrap .u64 ((q : Int) + (hv c : Int)) = ((q : Int) + (hv c : Int)) % 18446744073709551616 := wrap_u64 _
              rw [e2]
              by_cases ho : q + hv c < 18446744073709551616
              · have e3 : ((q : Int) + (hv c : Int)) % 18446744073709551616 = ((q + hv c : Nat) : Int) := by omega
                rw [e3, if_pos (by simp; omega)]
                by_cases hm : q + hv c ≤ maxOf bits
                · rw [if_neg (by simp; omega)]
                  refine ⟨(false, ((q + hv c : Nat) : Int), ((i + 1 : Nat) : Int)), ⟨rfl, rfl, by rw [i64w _ (by omega) (by omega)]; rfl, trivial⟩, ⟨i + 1, q + hv c, rfl, by omega, htk.symm, hm, rfl⟩, by dsimp only; omega⟩
                · rw [if_pos (by simp; omega)]
                  exact bad (by omega) _
              · rw [if_neg (by simp; omega)]
                exact bad (by omega) _
          · rw [if_neg (by
              have : ¬ ((c : Int) = 95) := by simp only [isHex, decide_eq_true_eq] at hhex; omega
              simpa using this)]
            by_cases hdg : 48 ≤ c ∧ c ≤ 57
            · rw [if_pos (by simp; omega), if_pos (by simp; omega)]
              refine ⟨(false, (hv c : Int)), ⟨rfl, ?_, trivial⟩, rfl, rfl⟩
              rw [IntWalk.u8_in _ (by omega)]
              congr 1
              unfold hv
              rw [if_pos hdg]
              omega
            · have hh := hv_lt hhex
              have low := low_hex c hg hhex hdg
              have hw : IntKind.wrap .u8 (((hv c + 87 : Nat)) : Int) = ((hv c + 87 : Nat) : Int) := IntWalk.u8_in _ (by omega)
              have h10 : 10 ≤ hv c := by
                simp only [isHex, decide_eq_true_eq] at hhex
                unfold hv
                rw [if_neg hdg]
                split <;> omega
              have letter : ∀ w5 : World, w5 = w4 → Calls Tryd.prog 52 #[.int .u8 (c : Int)] w5 (endW (fun (v : Value) (w' : World) => v = .int .u8 ((hv c + 87 : Nat) : Int) ∧ w' = w4) (fun _ _ => False)) := fun w5 e => by
                subst e
                refine Calls.then (lower_ok w5 c) ?_
                rintro v w6 ⟨rfl, rfl⟩
                rw [low, hw]
                exact ⟨rfl, rfl⟩
              have tail : Calls Tryd.prog 52 #[.int .u8 (c : Int)] w4 (endW (fun (v : Value) (w' : World) => ∃ (x : Int), v = Value.int .u8 x ∧ ∃ (s : Bool × Int), (Value.bool s.1 = .bool false ∧ Value.int .u8 s.2 = .int .u8 (IntKind.wrap .u8 (IntKind.wrap .u8 (x - 97) + 10)) ∧ True) ∧ (s = (false, (hv c : Int)) ∧ w' = w4)) (fun _ _ => False)) := by
                refine Calls.then (letter w4 rfl) ?_
                rintro v w6 ⟨rfl, rfl⟩
                refine ⟨_, rfl, (false, (hv c : Int)), ⟨rfl, ?_, trivial⟩, rfl, rfl⟩
                rw [IntWalk.u8_in (((hv c + 87 : Nat) : Int) - 97) (by omega), IntWalk.u8_in _ (by omega)]
                congr 1
                omega
              have mid : Calls Tryd.prog 52 #[.int .u8 (c : Int)] w4 (endW (fun (v : Value) (w' : World) => ∃ (x_2 : Int), v = Value.int .u8 x_2 ∧ if decide (x_2 ≤ 122) = true then Calls Tryd.prog 52 #[.int .u8 (c : Int)] w' (endW (fun (v : Value) (w' : World) => ∃ (x : Int), v = Value.int .u8 x ∧ ∃ (s : Bool × Int), (Value.bool s.1 = .bool false ∧ Value.int .u8 s.2 = .int .u8 (IntKind.wrap .u8 (IntKind.wrap .u8 (x - 97) + 10)) ∧ True) ∧ (s = (false, (hv c : Int)) ∧ w' = w4)) (fun _ _ => False)) else ((l ≠ [] ∧ vals b l ≤ maxOf bits ∧ Value.tuple #[Value.int IntKind.u64 (0 : Int), Value.iface 106 (Value.int IntKind.i64 2)] = .tuple #[.int .u64 (vals b l : Nat), .nilIface]) ∨ (¬ (l ≠ [] ∧ vals b l ≤ maxOf bits) ∧ ∃ (x k : Int), (k = 1 ∨ k = 2) ∧ Value.tuple #[Value.int IntKind.u64 (0 : Int), Value.iface 106 (Value.int IntKind.i64 2)] = .tuple #[.int .u64 x, .iface 106 (.int .i64 k)])) ∧ Chg NoS w2 w') (fun _ _ => False)) := by
                refine Calls.then (letter w4 rfl) ?_
                rintro v w6 ⟨rfl, rfl⟩
                refine ⟨_, rfl, ?_⟩
                rw [if_pos (by simp; omega)]
                exact tail
              refine ite_both (fun h48 => ?_) (fun _ => ?_)
              · simp at h48
                rw [if_neg (by simp; omega)]
                refine Calls.then (letter w4 rfl) ?_
                rintro v w6 ⟨rfl, rfl⟩
                refine ⟨_, rfl, ?_⟩
                rw [if_pos (by simp; omega)]
                exact mid
              · refine Calls.then (letter w4 rfl) ?_
                rintro v w6 ⟨rfl, rfl⟩
                refine ⟨_, rfl, ?_⟩
                rw [if_pos (by simp; omega)]
                exact mid
        · rw [if_neg (by simp; omega), if_neg (by decide)]
          have : i = l.length := by omega
          subst this
          rw [List.take_length] at hn
          subst hn
          exact ⟨.inl ⟨h0, hmax, rfl⟩, hc3⟩
      · dsimp only
        rcases hb with rfl | rfl
        · rw [if_pos (by decide)]
          exact ⟨_, ⟨rfl, trivial⟩, by rw [if_pos rfl], rfl⟩
        · rw [if_neg (by decide), if_pos (by decide)]
          exact ⟨_, ⟨rfl, trivial⟩, by rw [if_neg (by decide)], rfl⟩
    · rcases hbits with rfl | rfl
      · rw [if_neg (by decide), if_pos (by decide), if_neg (by decide)]
        exact ⟨_, ⟨rfl, trivial⟩, rfl, rfl⟩
      · rw [if_neg (by decide), if_pos (by decide), if_neg (by decide)]
        exact ⟨_, ⟨rfl, trivial⟩, rfl, rfl⟩
  · refine ⟨fun s w' => s = true ∧ w' = w, ?_, ?_⟩
    · rintro _ w0 ⟨rfl, rfl⟩ _
      rw [if_pos rfl]
      exact ⟨(bs l, (b : Int)), ⟨rfl, rfl, trivial⟩, rfl, rfl⟩
    · rw [if_pos (by simp; omega)]
      exact ⟨_, ⟨rfl, trivial⟩, by simp; omega, rfl⟩

/-- the variables that the library's errors lie in -/
def Errs (w : World) : Prop := (∃ t p, w.cell? ⟨1, 0, none⟩ = some (.iface t p)) ∧ (∃ t p, w.cell? ⟨2, 0, none⟩ = some (.iface t p))
theorem Errs.chg {w w' : World} (h : Errs w) (hc : Chg NoS w w') : Errs w' := by
  obtain ⟨⟨t, p, h1⟩, ⟨t', p', h2⟩⟩ := h
  exact ⟨⟨t, p, hc.sameOld.cell h1⟩, ⟨t', p', hc.sameOld.cell h2⟩⟩
theorem Parse_ok (w : World) (l : List UInt8) (b bits : Nat) (hb : b = 10 ∨ b = 16) (hbits : bits = 8 ∨ bits = 64) (hl : ∀ j, j < l.length → okD b (g l j) = true) (hlen : l.length ≤ 65536) (hE : Errs w) :
    Calls Tryd.prog 37 #[.string (bs l), .int .i64 (b : Int), .int .i64 (bits : Int)] w (endW (fun v w' => ((l ≠ [] ∧ vals b l ≤ maxOf bits ∧ v = .tuple #[.int .u64 (vals b l : Nat), .nilIface]) ∨ (¬ (l ≠ [] ∧ vals b l ≤ maxOf bits) ∧ ∃ (x : Int) (t : TypeId) (z : Value), v = .tuple #[.int .u64 x, .iface t z])) ∧ Chg NoS w w') (fun _ _ => False)) := by
  refine F37_calls _ _ _ ?_
  delta F37
  refine Calls.then (iParse_ok w l b bits hb hbits hl hlen) ?_
  rintro v w1 ⟨h, hc⟩
  rcases h with ⟨h0, hm, rfl⟩ | ⟨hn, x, k, hk, rfl⟩
  · refine ⟨_, rfl, _, _, rfl, _, rfl, _, _, rfl, rfl, .inl rfl, ?_⟩
    rw [if_neg (by simp [isNilI])]
    exact ⟨.inl ⟨h0, hm, rfl⟩, hc⟩
  · refine ⟨_, rfl, _, _, rfl, _, rfl, _, _, rfl, rfl, .inr ⟨_, _, rfl⟩, ?_⟩
    rw [if_pos (by simp [isNilI])]
    obtain ⟨⟨t1, p1, e1⟩, ⟨t2, p2, e2⟩⟩ := hE.chg hc
    rcases hk with rfl | rfl
    · refine Calls.mono (Tryd.strconv_toError_range _ (bs l) b bits _ w1 (by rw [bs_size]; omega) e2 (.inr ⟨_, _, rfl⟩)) ?_
      rintro e w2 ⟨N, rfl, _, _, hbel⟩
      exact ⟨.inr ⟨hn, x, _, _, rfl⟩, hc.trans (below_new hbel)⟩
    · refine Calls.mono (Tryd.strconv_toError_syntax _ (bs l) b bits _ w1 (by rw [bs_size]; omega) e1 (.inr ⟨_, _, rfl⟩)) ?_
      rintro e w2 ⟨N, rfl, _, _, hbel⟩
      exact ⟨.inr ⟨hn, x, _, _, rfl⟩, hc.trans (below_new hbel)⟩
end Go.Proofs.YthifnahfcbgnoaaDoor.B
