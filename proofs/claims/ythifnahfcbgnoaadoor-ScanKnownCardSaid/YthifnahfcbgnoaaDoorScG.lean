/-
  scan: a word; blanks and remarks.
-/
import Derived.Test.YthifnahfcbgnoaaDoorScF
import Derived.Laws.RangeAny
import Derived.Lib.OthersKept
set_option maxRecDepth 100000
set_option linter.unusedVariables false
set_option linter.unusedSimpArgs false
namespace Go.Proofs.YthifnahfcbgnoaaDoor.B
open Go Go.Proofs Go.Proofs.YthifnahfcbgnoaaDoorEng Go.RowKit

theorem lay1 {w : World} {base r k n c : Nat} {t : List UInt8} {ws : List Wd} {a : Option Addr} {x : Wd} {K : World → Prop} {E : PanW} (h1 : Rd w r t k a n c) (h2 : w.ownsRow base 39 4 (.slice a n c) n (wcells ws)) (h3 : n = ws.length) (h4 : r < base) (h5 : base ≤ w.heap.size) (hws : ws.length < 100000)
    (hK : ∀ w' a' c', w'.heap[r]? = some (.cells #[.string (bs t), .int .i64 (k : Int), .slice a' (n + 1) c'] 47 (0, 0)) → w'.ownsRow base 39 4 (.slice a' (n + 1) c') (n + 1) (wcells (ws ++ [x])) → Chg (fun b => r ≤ b) w w' → K w') :
    runV Tryd.prog (Builtin.append_ #[22, 22] 22 #[.slice a n c, .slice (some ⟨w.heap.size, 0, none⟩) 1 1]) (w.alloc (wobj x)) (fun (v : Value) (w : World) => ∃ (a : Option Addr), ∃ (n : Nat), ∃ (c : Nat), v = Value.slice a n c ∧ wSome (some ⟨r, 0, none⟩) fun (A : Addr) => setW w (addK A (2 : Nat)) (Value.slice a n c) K) E := by
  refine push_ok (x := x) h2 (by omega) h5 ?_
  intro a' c' w2 ho2 hc2
  refine ⟨_, _, _, rfl, ?_⟩
  have hb2 : w2.heap[r]? = some (.cells #[.string (bs t), .int .i64 (k : Int), .slice a n c] 47 (0, 0)) := hc2.blk h1 (by omega)
  refine some_i (set2 hb2 rfl ?_)
  intro w3 hb3 hc3 hs3
  exact hK w3 a' c' hb3 (own_of_chg ho2 hc3 fun b hb hx => by have := (own_lt' ho2 hb).2; have : b = r := hx; omega) ((hc2.mono fun b _ hb => by omega).trans (hc3.mono fun b _ hb => by rw [show b = r from hb]; exact Nat.le_refl _))
theorem lay2 {w0 w : World} {base r k n e : Nat} {t : List UInt8} {ws : List Wd} {a' : Option Addr} {c' : Nat} {v : Value} {x : Wd} {K : World → Prop} (hb : w.heap[r]? = some (.cells #[.string (bs t), .int .i64 (k : Int), .slice a' (n + 1) c'] 47 (0, 0))) (ho : w.ownsRow base 39 4 (.slice a' (n + 1) c') (n + 1) (wcells (ws ++ [x]))) (hc : Chg (fun b => r ≤ b) w0 w) (h3 : n = ws.length) (h4 : r < base) (h5 : base ≤ w0.heap.size) (hws : ws.length < 100000)
    (hv : v = .int .i64 (e : Int)) (hK : ∀ w', RdO w' base r t e (ws ++ [x]) → Chg (fun b => r ≤ b) w0 w' → K w') : setW w (addK ⟨r, 0, none⟩ 1) v K := by
  subst hv
  refine set1 hb rfl ?_
  intro w4 hb4 hc4 hs4
  have hc14 := hc.trans (hc4.mono fun b _ hb => by rw [show b = r from hb]; exact Nat.le_refl _)
  refine hK w4 ⟨a', n + 1, c', hb4, ?_, by simp [h3], h4, by have := hc14.size; omega, by simp; omega⟩ hc14
  exact own_of_chg ho hc4 fun b hb hx => by have := (own_lt' ho hb).2; have : b = r := hx; omega

def signs : List Nat := [43, 59, 42, 61, 33, 38, 124, 40, 41, 123, 125]
def oneAt (t : List UInt8) (k : Nat) : One :=
  if (pairsAt t k).isSome = true ∨ isDig (g t k) = true then numAt t k
  else if isLet (g t k) = true then (if k + 32 < span isAl t k then .bad 3 (span isAl t k) else .ok 1 (span isAl t k) 0)
  else if g t k = 58 then (if isAt t (k + 1) 61 = true then .ok 3 (k + 2) 0 else .bad 150 (k + 1))
  else if g t k ∈ signs then .ok 3 (k + 1) 0 else .bad 150 (k + 1)
theorem word_ok {w : World} {base r k : Nat} {t : List UInt8} {ws : List Wd} (h : RdO w base r t k ws) (hk : k < t.length) (ht : t.length ≤ 65536) (hws : ws.length < 100000) (hE : Errs w) :
    Calls Tryd.prog 13 #[.pointer (some ⟨r, 0, none⟩)] w (endW (Res w base r t k ws (oneAt t k)) (fun _ _ => False)) := by
  refine F13_calls _ ?_
  delta F13
  have h0 := h
  obtain ⟨a, n, c, h1, h2, h3, h4, h5, h6⟩ := h
  have hcd := chg_drew w NoS
  refine some_i (some_i ⟨_, h1.drew.s, _, h1.drew.at_, by omega, by rw [bs_size]; omega, ?_⟩)
  rw [g_at]
  generalize hg : g t k = b
  have hnum : (pairsAt t k).isSome = true ∨ isDig b = true → ∀ w1 : World, Chg NoS w w1 → Calls Tryd.prog 19 #[.pointer (some ⟨r, 0, none⟩)] w1 (endW (fun (v : Value) (w' : World) => ∃ (p : Option Addr), v = Value.pointer p ∧ Res w base r t k ws (oneAt t k) (Value.pointer p) w') (fun _ _ => False)) := fun hy w1 hc => by
    refine Calls.then (number_ok (h0.chg hc) (Nat.le_of_lt hk) ht hws (hE.chg hc)) ?_
    intro v w2 hr
    obtain ⟨p, rfl⟩ := hr.ptr
    refine ⟨p, rfl, ?_⟩
    unfold oneAt
    rw [hg, if_pos hy]
    exact hr.of_chg hc
  refine ⟨fun s w' => Chg NoS w w' ∧ ¬ ((pairsAt t k).isSome = true ∨ isDig b = true), ?_, ?_⟩
  · rintro _ w1 ⟨hc1, hno⟩ _
    have hr1 := h1.chg hc1
    refine Calls.then (letter_ok w1 b) ?_
    rintro v w2 ⟨rfl, rfl⟩
    refine ⟨_, rfl, ?_⟩
    refine ite_both (fun hl => ?_) (fun hl => ?_)
    · have hone : oneAt t k = if k + 32 < span isAl t k then .bad 3 (span isAl t k) else .ok 1 (span isAl t k) 0 := by
        unfold oneAt
        rw [hg, if_neg hno, if_pos hl]
      rw [hone]
      refine some_i ⟨_, hr1.at_, ?_⟩
      refine Calls.then (span22_ok hr1 k (Nat.le_of_lt hk) ht) ?_
      rintro v w3 ⟨rfl, rfl⟩
      have hsp := span_le isAl t k
      generalize span isAl t k = e at hsp ⊢
      have hel := hsp.2 (Nat.le_of_lt hk)
      have hle := hsp.1
      have e32 : IntKind.wrap .i64 ((k : Int) + 32) = ((k + 32 : Nat) : Int) := by rw [i64w _ (by omega) (by omega)]; rfl
      refine ⟨_, rfl, some_i ⟨_, hr1.at_, ?_⟩⟩
      rw [e32]
      by_cases h32 : k + 32 < e
      · rw [if_pos (by simp; omega), if_pos h32]
        exact bad_to h0 hc1 (code := 3) hle hel rfl
      · rw [if_neg (by simp; omega), if_neg h32]
        refine some_i (some_i (some_i (some_i ⟨_, _, _, hr1.drew.l, _, hr1.drew.s, _, hr1.drew.at_, by omega, by rw [bs_size]; omega, by omega, by rw [Int.toNat_natCast]; omega, _, hr1.drew.at_, (chg_alloc w3.drew _ NoS).sameOld, ?_⟩)))
        rw [Int.toNat_natCast, Int.toNat_natCast, ext_cut]
        have hc1d := hc1.trans (chg_drew w3 NoS)
        refine lay1 (x := ⟨1, cut t k e, 0, k⟩) hr1.drew (own_of_chg h2 hc1d fun _ _ x => x) h3 h4 (by have := hc1d.size; omega) hws ?_
        intro w4 a' c' hb4 ho4 hc4
        refine some_i (lay2 hb4 ho4 hc4 h3 h4 (by have := hc1d.size; omega) hws rfl ?_)
        intro w5 hr5 hc5
        exact ⟨(hc1d.mono fun _ _ x => x.elim).trans hc5, rfl, hr5⟩
    · have hone : oneAt t k = if b = 58 then (if isAt t (k + 1) 61 = true then .ok 3 (k + 2) 0 else .bad 150 (k + 1)) else if b ∈ signs then .ok 3 (k + 1) 0 else .bad 150 (k + 1) := by
        unfold oneAt
        rw [hg, if_neg hno, if_neg hl]
      have e1 : IntKind.wrap .i64 ((k : Int) + 1) = ((k + 1 : Nat) : Int) := by rw [i64w _ (by omega) (by omega)]; rfl
      refine ⟨fun s w' => ∃ m : Nat, s = (m : Int) ∧ m ≤ 2 ∧ k + m ≤ t.length ∧ oneAt t k = .ok 3 (k + m) 0 ∧ w' = w2, ?_, ?_⟩
      · rintro _ w3 ⟨m, rfl, hm2, hml, ho, rfl⟩ _
        rw [ho]
        have em : IntKind.wrap .i64 ((k : Int) + (m : Int)) = ((k + m : Nat) : Int) := by rw [i64w _ (by omega) (by omega)]; rfl
        refine some_i (some_i (some_i (some_i (some_i ⟨_, _, _, hr1.drew.l, _, hr1.drew.s, _, hr1.drew.at_, _, hr1.drew.at_, ?_⟩))))
        rw [em]
        refine ⟨by omega, by rw [bs_size]; omega, by omega, by rw [Int.toNat_natCast]; omega, _, hr1.drew.at_, (chg_alloc w3.drew _ NoS).sameOld, ?_⟩
        rw [Int.toNat_natCast, Int.toNat_natCast, ext_cut]
        have hc1d := hc1.trans (chg_drew w3 NoS)
        refine lay1 (x := ⟨3, cut t k (k + m), 0, k⟩) hr1.drew (own_of_chg h2 hc1d fun _ _ x => x) h3 h4 (by have := hc1d.size; omega) hws ?_
        intro w4 a' c' hb4 ho4 hc4
        refine some_i ⟨_, by rw [addK_lit, cell_blk hb4]; rfl, some_i (lay2 (e := k + m) hb4 ho4 hc4 h3 h4 (by have := hc1d.size; omega) hws (by rw [em]) ?_)⟩
        intro w5 hr5 hc5
        exact ⟨(hc1d.mono fun _ _ x => x.elim).trans hc5, rfl, hr5⟩
      · have sign : b ≠ 58 → b ∈ signs → ∃ (s : Int), (Value.int IntKind.i64 s = Value.int IntKind.i64 (1 : Int) ∧ True) ∧ ∃ m : Nat, s = (m : Int) ∧ m ≤ 2 ∧ k + m ≤ t.length ∧ oneAt t k = .ok 3 (k + m) 0 ∧ w2 = w2 := fun h58 hs => ⟨1, ⟨rfl, trivial⟩, 1, rfl, by omega, by omega, by rw [hone, if_neg h58, if_pos hs], rfl⟩
        have none_ : b ≠ 58 → ¬ b ∈ signs → wSome (some ⟨r, 0, none⟩) fun (A : Addr) => ∃ (x : Int), World.cell? w2 (addK A (1 : Nat)) = Option.some (Value.int IntKind.i64 x) ∧ Calls Tryd.prog (23 : Nat) #[Value.pointer (some ⟨r, 0, none⟩), Value.int IntKind.i64 (150 : Int), Value.int IntKind.i64 (IntKind.wrap IntKind.i64 (x + (1 : Int)))] w2 (endW (fun (v : Value) (w' : World) => ∃ (p : Option Addr), v = Value.pointer p ∧ Res w base r t k ws (oneAt t k) (Value.pointer p) w') (fun _ _ => False)) := fun h58 hs => by
          refine some_i ⟨_, hr1.at_, ?_⟩
          rw [e1]
          exact bad_to h0 hc1 (code := 150) (e := k + 1) (by omega) (by omega) (by rw [hone, if_neg h58, if_neg hs])
        by_cases h58 : b = 58
        · rw [if_pos (by simp [h58])]
          refine some_i ⟨_, hr1.at_, ?_⟩
          rw [e1]
          refine Calls.then (is_ok hr1 (k + 1) 61) ?_
          rintro v w3 ⟨rfl, rfl⟩
          refine ⟨_, rfl, ?_⟩
          refine ite_both (fun hx => ?_) (fun hx => ?_)
          · simp at hx
            refine some_i ⟨_, hr1.at_, ?_⟩
            rw [e1]
            exact bad_to h0 hc1 (code := 150) (e := k + 1) (by omega) (by omega) (by rw [hone, if_pos h58, if_neg (by simp [hx])])
          · simp at hx
            have hx2 := hx
            simp [isAt] at hx2
            exact ⟨2, ⟨rfl, trivial⟩, 2, rfl, by omega, by omega, by rw [hone, if_pos h58, if_pos hx], rfl⟩
        · rw [if_neg (by rw [show ((b : Int) == 58) = decide (b = 58) from beq_nat b 58]; simp [h58])]
          have q : ∀ m : Nat, ((b : Int) == (m : Int)) = decide (b = m) := beq_nat b
          rw [show ((b : Int) == 43) = decide (b = 43) from q 43, show ((b : Int) == 59) = decide (b = 59) from q 59, show ((b : Int) == 42) = decide (b = 42) from q 42, show ((b : Int) == 61) = decide (b = 61) from q 61, show ((b : Int) == 33) = decide (b = 33) from q 33, show ((b : Int) == 38) = decide (b = 38) from q 38, show ((b : Int) == 124) = decide (b = 124) from q 124, show ((b : Int) == 40) = decide (b = 40) from q 40, show ((b : Int) == 41) = decide (b = 41) from q 41, show ((b : Int) == 123) = decide (b = 123) from q 123, show ((b : Int) == 125) = decide (b = 125) from q 125]
          repeat' (first
            | refine ite_both (fun _ => ?_) (fun _ => ?_)
            | exact sign h58 (by simp [signs] at *; omega)
            | (refine none_ h58 ?_; simp [signs] at *; omega))
  · refine Calls.then (pairs_ok h1.drew (Nat.le_of_lt hk) ht (hE.chg hcd)) ?_
    rintro v w1 ⟨rfl, hc⟩
    have hc1 := hcd.trans hc
    cases hp : pairsAt t k with
    | none =>
      refine ⟨_, rfl, _, _, rfl, _, rfl, _, _, rfl, _, rfl, _, _, rfl, _, rfl, rfl, ?_⟩
      rw [if_pos (by decide)]
      refine Calls.then (digit_ok w1 b) ?_
      rintro v w2 ⟨rfl, rfl⟩
      refine ⟨_, rfl, ?_⟩
      refine ite_both (fun hd => ?_) (fun hd => ?_)
      · exact hnum (.inr hd) w2 hc1
      · exact ⟨(), trivial, hc1, fun hh => by rcases hh with hh | hh; cases hh; exact hd hh⟩
    | some x =>
      obtain ⟨m, e⟩ := x
      refine ⟨_, rfl, _, _, rfl, _, rfl, _, _, rfl, _, rfl, _, _, rfl, _, rfl, rfl, ?_⟩
      rw [if_neg (by decide)]
      exact hnum (.inl (by first | rfl | (rw [hp]; rfl))) w1 hc1
end Go.Proofs.YthifnahfcbgnoaaDoor.B
