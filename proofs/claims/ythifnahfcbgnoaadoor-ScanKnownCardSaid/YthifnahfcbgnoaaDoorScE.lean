/-
  scan: dotted, the three tries, number.
-/
import Derived.Test.YthifnahfcbgnoaaDoorScD
set_option maxRecDepth 100000
set_option linter.unusedVariables false
set_option linter.unusedSimpArgs false
namespace Go.Proofs.YthifnahfcbgnoaaDoor.B
open Go Go.Proofs Go.Proofs.YthifnahfcbgnoaaDoorEng Go.RowKit

theorem dots_end {t : List UInt8} {at_ m : Nat} : dots t 4 at_ m = closedAt t at_ m := by rw [dots, if_neg (by omega)]
theorem dots_no {t : List UInt8} {i at_ m : Nat} (hi : i < 4) (h : ¬ (i = 0 ∨ isAt t at_ 46 = true)) : dots t i at_ m = .bad 150 at_ := by rw [dots, if_pos hi, if_neg h]
theorem dots_bad {t : List UInt8} {i at_ m b e : Nat} (hi : i < 4) (hb : b = if i = 0 then at_ else at_ + 1) (he : e = span isDig t b) (h : i = 0 ∨ isAt t at_ 46 = true) (hn : ¬ (cut t b e ≠ [] ∧ vals 10 (cut t b e) ≤ 255 ∧ ¬ (b + 1 < e ∧ isAt t b 48 = true))) : dots t i at_ m = .bad 150 e := by
  subst he; subst hb
  rw [dots, if_pos hi, if_pos h]
  exact if_neg hn
theorem dots_go {t : List UInt8} {i at_ m b e : Nat} (hi : i < 4) (hb : b = if i = 0 then at_ else at_ + 1) (he : e = span isDig t b) (h : i = 0 ∨ isAt t at_ 46 = true) (hn : cut t b e ≠ [] ∧ vals 10 (cut t b e) ≤ 255 ∧ ¬ (b + 1 < e ∧ isAt t b 48 = true)) : dots t i at_ m = dots t (i + 1) e (m * 256 + vals 10 (cut t b e)) := by
  subst he; subst hb
  rw [dots, if_pos hi, if_pos h]
  exact if_pos hn
theorem Res.ptr {w w' : World} {base r k : Nat} {t : List UInt8} {ws : List Wd} {o : One} {v : Value} (h : Res w base r t k ws o v w') : ∃ p, v = Value.pointer p := by
  have h2 := h.2
  cases o with
  | ok kd e m => exact ⟨none, h2.1⟩
  | bad code e =>
    obtain ⟨b, h3, _⟩ := h2
    exact ⟨_, h3⟩
theorem bad_to {w w1 : World} {base r k : Nat} {t : List UInt8} {ws : List Wd} (h : RdO w base r t k ws) (hc : Chg NoS w w1) {code e : Nat} (hk : k ≤ e) (he : e ≤ t.length) {o : One} (ho : o = .bad code e) :
    Calls Tryd.prog 23 #[.pointer (some ⟨r, 0, none⟩), .int .i64 (code : Int), .int .i64 (e : Int)] w1 (endW (fun (v : Value) (w' : World) => ∃ (p : Option Addr), v = Value.pointer p ∧ Res w base r t k ws o (Value.pointer p) w') (fun _ _ => False)) := by
  subst ho
  exact bad_res (ev := 0) (E := fun _ _ => False) (h.chg hc) hk he fun v w' hr => hr.of_chg hc
theorem put_to {w w1 : World} {base r k : Nat} {t : List UInt8} {ws : List Wd} (h : RdO w base r t k ws) (hc : Chg NoS w w1) {e m : Nat} (hk : k ≤ e) (he : e ≤ t.length) (ht : t.length ≤ 65536) (hws : ws.length < 100000) {o : One} (ho : o = closedAt t e m) :
    Calls Tryd.prog 39 #[.pointer (some ⟨r, 0, none⟩), .int .i64 (e : Int), .int .u64 (m : Int)] w1 (endW (fun (v : Value) (w' : World) => ∃ (p : Option Addr), v = Value.pointer p ∧ Res w base r t k ws o (Value.pointer p) w') (fun _ _ => False)) := by
  subst ho
  refine Calls.then (put_ok (h.chg hc) e m hk he ht hws) ?_
  intro v w' hr
  have hr' := hr.of_chg hc
  obtain ⟨p, rfl⟩ := hr.ptr
  exact ⟨p, rfl, hr'⟩
theorem dotted_ok {w : World} {base r k : Nat} {t : List UInt8} {ws : List Wd} (h : RdO w base r t k ws) (hk : k ≤ t.length) (ht : t.length ≤ 65536) (hws : ws.length < 100000) (hE : Errs w) :
    Calls Tryd.prog 42 #[.pointer (some ⟨r, 0, none⟩)] w (endW (Res w base r t k ws (dots t 0 k 0)) (fun _ _ => False)) := by
  refine F42_calls _ ?_
  delta F42
  have h0 := h
  obtain ⟨a, n, c, h1, h2, h3, h4, h5, h6⟩ := h
  refine some_i ⟨_, h1.at_, ?_⟩
  refine ⟨fun s w' => ∃ i at_ m : Nat, s = ((at_ : Int), (m : Int), (i : Int)) ∧ i ≤ 4 ∧ k ≤ at_ ∧ at_ ≤ t.length ∧ m < 256 ^ i ∧ dots t i at_ m = dots t 0 k 0 ∧ Chg NoS w w', fun s _ => (4 - s.2.2).toNat, ⟨((k : Int), 0, 0), ⟨rfl, rfl, rfl, trivial⟩, 0, k, 0, rfl, by omega, Nat.le_refl _, hk, by omega, rfl, Chg.refl _ _⟩, ?_⟩
  rintro _ w1 ⟨i, at_, m, rfl, hi, hka, hat, hm, he, hc⟩ _
  dsimp only
  by_cases hlt : i < 4
  · rw [if_pos (by simp; omega)]
    have hm24 : m < 16777216 := Nat.lt_of_lt_of_le hm (by
      have : 256 ^ i ≤ 256 ^ 3 := Nat.pow_le_pow_right (by omega) (by omega)
      omega)
    generalize hb : (if i = 0 then at_ else at_ + 1) = b
    refine ⟨fun s w' => s = (b : Int) ∧ (i = 0 ∨ isAt t at_ 46 = true) ∧ k ≤ b ∧ b ≤ t.length ∧ Chg NoS w w', ?_, ?_⟩
    · rintro _ w2 ⟨rfl, hcol, hkb, hbl, hc2⟩ _
      refine Calls.then (span18_ok (h1.chg hc2) b hbl ht) ?_
      rintro v w3 ⟨rfl, rfl⟩
      have hr3 := h1.chg hc2
      have hsp := span_le isDig t b
      generalize hee : span isDig t b = e at hsp
      have hel := hsp.2 hbl
      have h2' := hsp.1
      refine ⟨_, rfl, some_i ⟨_, hr3.s, by omega, by rw [bs_size]; omega, by omega, by rw [Int.toNat_natCast]; omega, ?_⟩⟩
      rw [Int.toNat_natCast, Int.toNat_natCast, ext_cut]
      refine Calls.then (Parse_ok w3 (cut t b e) 10 8 (.inl rfl) (.inl rfl) (fun j hj => okD_dig (by rw [← hee] at hj ⊢; exact cut_dig isDig hbl j hj)) (by rw [cut_length _ _ _ h2' hel]; omega) (hE.chg hc2)) ?_
      rintro v w4 ⟨hv', hc4⟩
      have hc14 := hc2.trans hc4
      have e1 : IntKind.wrap .i64 ((b : Int) + 1) = ((b + 1 : Nat) : Int) := by rw [i64w _ (by omega) (by omega)]; rfl
      rcases hv' with ⟨hne, hmax, rfl⟩ | ⟨hn, x, t1, z1, rfl⟩
      · have hmax' : vals 10 (cut t b e) ≤ 255 := hmax
        refine ⟨_, rfl, _, _, rfl, _, rfl, _, _, rfl, rfl, .inl rfl, ?_⟩
        rw [if_pos (by simp [isNilI]), e1]
        have go : ¬ (b + 1 < e ∧ isAt t b 48 = true) → ∃ s' : Int × Int × Int, (Value.int .i64 s'.1 = .int .i64 (e : Int) ∧ Value.int .u64 s'.2.1 = .int .u64 (IntKind.wrap .u64 ((BitVec.ofInt 64 (IntKind.wrap .u64 ((m : Int) * (2 : Int) ^ 8)) ||| BitVec.ofInt 64 ((vals 10 (cut t b e) : Nat) : Int)).toNat : Int)) ∧ Value.int .i64 s'.2.2 = .int .i64 (IntKind.wrap .i64 ((i : Int) + 1)) ∧ True) ∧
            (∃ i at_ m : Nat, s' = ((at_ : Int), (m : Int), (i : Int)) ∧ i ≤ 4 ∧ k ≤ at_ ∧ at_ ≤ t.length ∧ m < 256 ^ i ∧ dots t i at_ m = dots t 0 k 0 ∧ Chg NoS w w4) ∧ (4 - s'.2.2).toNat < (4 - (i : Int)).toNat := fun hnz => by
          have e3 : IntKind.wrap .u64 ((m : Int) * (2 : Int) ^ 8) = ((m * 2 ^ 8 : Nat) : Int) := by rw [wrap_u64]; omega
          rw [e3, or_low (k := 8) (by omega) (by omega) (by omega), wrap_u64]
          refine ⟨((e : Int), ((m * 256 + vals 10 (cut t b e) : Nat) : Int), ((i + 1 : Nat) : Int)), ⟨rfl, ?_, by rw [i64w _ (by omega) (by omega)]; rfl, trivial⟩, ⟨i + 1, e, _, rfl, by omega, by omega, hel, ?_, ?_, hc14⟩, by dsimp only; omega⟩
          · dsimp only
            congr 1
            omega
          · rw [Nat.pow_succ]
            omega
          · rw [← dots_go hlt hb.symm hee.symm hcol ⟨hne, hmax', hnz⟩]
            exact he
        by_cases hb1 : b + 1 < e
        · rw [if_pos (by simp; omega)]
          refine Calls.then (is_ok (h1.chg hc14) b 48) ?_
          rintro v w5 ⟨rfl, rfl⟩
          refine ⟨_, rfl, ?_⟩
          refine ite_both (fun hx => ?_) (fun hx => ?_)
          · exact bad_to h0 hc14 (code := 150) (by omega) hel (by rw [← he, dots_bad hlt hb.symm hee.symm hcol fun hh => hh.2.2 ⟨hb1, hx⟩])
          · exact ⟨by omega, go fun hh => hx hh.2⟩
        · rw [if_neg (by simp; omega)]
          exact ⟨by omega, go fun hh => hb1 hh.1⟩
      · refine ⟨_, rfl, _, _, rfl, _, rfl, _, _, rfl, rfl, .inr ⟨_, _, rfl⟩, ?_⟩
        rw [if_neg (by simp [isNilI])]
        exact bad_to h0 hc14 (code := 150) (by omega) hel (by rw [← he, dots_bad hlt hb.symm hee.symm hcol fun hh => hn ⟨hh.1, hh.2.1⟩])
    · by_cases hi0 : i = 0
      · rw [if_neg (by simp; omega)]
        rw [if_pos hi0] at hb
        subst hb
        exact ⟨(at_ : Int), ⟨rfl, trivial⟩, rfl, .inl hi0, hka, hat, hc⟩
      · rw [if_pos (by simp; omega)]
        rw [if_neg hi0] at hb
        subst hb
        refine Calls.then (is_ok (h1.chg hc) at_ 46) ?_
        rintro v w2 ⟨rfl, rfl⟩
        refine ⟨_, rfl, ?_⟩
        refine ite_both (fun hx => ?_) (fun hx => ?_)
        · simp at hx
          exact bad_to h0 hc (code := 150) hka hat (by rw [← he, dots_no hlt fun hh => by rw [hx] at hh; rcases hh with h | h; exact hi0 h; cases h])
        · simp at hx
          have hx2 := hx
          simp [isAt] at hx2
          exact ⟨((at_ + 1 : Nat) : Int), ⟨by rw [i64w _ (by omega) (by omega)]; rfl, trivial⟩, rfl, .inr hx, by omega, by omega, hc⟩
  · rw [if_neg (by simp; omega)]
    have : i = 4 := by omega
    subst this
    rw [dots_end] at he
    exact put_to h0 hc hka hat ht hws he.symm

/-! ### the three tries; a variable that holds the reader -/
def Var (w : World) (q r : Nat) : Prop := w.heap[q]? = some (.cells #[.pointer (some ⟨r, 0, none⟩)] 45 (0, 0))
theorem Var.cell {w : World} {q r : Nat} (h : Var w q r) : w.cell? ⟨q, 0, none⟩ = some (.pointer (some ⟨r, 0, none⟩)) := by rw [cell_blk h]; rfl
/-- a try: done, with what; or not -/
abbrev TryR (w : World) (base r : Nat) (t : List UInt8) (k : Nat) (ws : List Wd) (o : Option One) : Value → World → Prop := fun v w' => match o with
  | some o => ∃ p, v = .tuple #[.pointer p, .bool true] ∧ Res w base r t k ws o (.pointer p) w'
  | none => v = .tuple #[.pointer none, .bool false] ∧ Chg NoS w w'
def try1 (t : List UInt8) (k : Nat) : Option One := match pairsAt t k with
  | some (m, e) => some (closedAt t e m)
  | none => none
theorem try1_ok {w : World} {base r k q : Nat} {t : List UInt8} {ws : List Wd} (h : RdO w base r t k ws) (hq : Var w q r) (hk : k ≤ t.length) (ht : t.length ≤ 65536) (hws : ws.length < 100000) (hE : Errs w) :
    Calls Tryd.prog 38 #[.pointer (some ⟨q, 0, none⟩)] w (endW (TryR w base r t k ws (try1 t k)) (fun _ _ => False)) := by
  refine F38_calls _ ?_
  delta F38
  have h0 := h
  obtain ⟨a, n, c, h1, h2, h3, h4, h5, h6⟩ := h
  refine some_i ⟨_, hq.cell, ?_⟩
  refine Calls.then (pairs_ok h1 hk ht hE) ?_
  rintro v w1 ⟨rfl, hc⟩
  unfold try1
  cases hp : pairsAt t k with
  | none =>
    refine ⟨_, rfl, _, _, rfl, _, rfl, _, _, rfl, _, rfl, _, _, rfl, _, rfl, rfl, ?_⟩
    rw [if_pos (by decide)]
    exact ⟨rfl, hc⟩
  | some x =>
    obtain ⟨m, e⟩ := x
    have hle := pr_le hp hk
    refine ⟨_, rfl, _, _, rfl, _, rfl, _, _, rfl, _, rfl, _, _, rfl, _, rfl, rfl, ?_⟩
    rw [if_neg (by decide)]
    refine some_i ⟨_, Var.cell (hc.blk hq fun x => x), ?_⟩
    refine Calls.then (put_to h0 hc hle.1 hle.2.1 ht hws (o := closedAt t e m) rfl) ?_
    rintro v w2 ⟨p, rfl, hr⟩
    exact ⟨p, rfl, p, rfl, hr⟩
def try3 (t : List UInt8) (k : Nat) : Option One := if isAt t (span isDig t k) 46 = true then some (dots t 0 k 0) else none
theorem try3_ok {w : World} {base r k q : Nat} {t : List UInt8} {ws : List Wd} (h : RdO w base r t k ws) (hq : Var w q r) (hk : k ≤ t.length) (ht : t.length ≤ 65536) (hws : ws.length < 100000) (hE : Errs w) :
    Calls Tryd.prog 41 #[.pointer (some ⟨q, 0, none⟩)] w (endW (TryR w base r t k ws (try3 t k)) (fun _ _ => False)) := by
  refine F41_calls _ ?_
  delta F41
  have h0 := h
  obtain ⟨a, n, c, h1, h2, h3, h4, h5, h6⟩ := h
  have hqd : w.drew.cell? ⟨q, 0, none⟩ = some (.pointer (some ⟨r, 0, none⟩)) := hq.cell
  have hcd := chg_drew w NoS
  refine ⟨NoS, fun x => x, some_i ⟨_, hqd, fun x => x, some_i ⟨_, hqd, fun x => x, some_i ⟨_, hqd, some_i ⟨fun x => x, _, h1.drew.at_, ?_⟩⟩⟩⟩⟩
  refine Calls.then (span18_ok h1.drew k hk ht) ?_
  rintro v w1 ⟨rfl, rfl⟩
  refine ⟨_, rfl, Kept.refl _ _, ?_⟩
  refine Calls.then (is_ok h1.drew _ 46) ?_
  rintro v w2 ⟨rfl, rfl⟩
  refine ⟨_, rfl, ?_⟩
  unfold try3
  refine ite_both (fun hx => ?_) (fun hx => ?_)
  · simp at hx
    rw [if_neg (by simp [hx])]
    exact ⟨rfl, hcd⟩
  · simp at hx
    rw [if_pos hx]
    refine some_i ⟨_, hqd, ?_⟩
    refine Calls.then (dotted_ok (h0.chg hcd) hk ht hws (hE.chg hcd)) ?_
    intro v w3 hr
    obtain ⟨p, rfl⟩ := hr.ptr
    exact ⟨p, rfl, p, rfl, hr.of_chg hcd⟩
def try2 (t : List UInt8) (k : Nat) : Option One := if isAt t k 48 = true ∧ isAt t (k + 1) 120 = true then some (hexNum t k) else none
theorem try2_ok {w : World} {base r k q : Nat} {t : List UInt8} {ws : List Wd} (h : RdO w base r t k ws) (hq : Var w q r) (hk : k ≤ t.length) (ht : t.length ≤ 65536) (hws : ws.length < 100000) (hE : Errs w) :
    Calls Tryd.prog 40 #[.pointer (some ⟨q, 0, none⟩)] w (endW (TryR w base r t k ws (try2 t k)) (fun _ _ => False)) := by
  refine F40_calls _ ?_
  delta F40
  have h0 := h
  obtain ⟨a, n, c, h1, h2, h3, h4, h5, h6⟩ := h
  have hqd : w.drew.cell? ⟨q, 0, none⟩ = some (.pointer (some ⟨r, 0, none⟩)) := hq.cell
  have hcd := chg_drew w NoS
  have e1 : IntKind.wrap .i64 ((k : Int) + 1) = ((k + 1 : Nat) : Int) := by rw [i64w _ (by omega) (by omega)]; rfl
  have e2 : IntKind.wrap .i64 ((k : Int) + 2) = ((k + 2 : Nat) : Int) := by rw [i64w _ (by omega) (by omega)]; rfl
  have e18 : IntKind.wrap .i64 ((k : Int) + 18) = ((k + 18 : Nat) : Int) := by rw [i64w _ (by omega) (by omega)]; rfl
  refine ⟨fun s w' => w' = w.drew ∧ isAt t k 48 = true ∧ isAt t (k + 1) 120 = true, ?_, ?_⟩
  · rintro s w1 ⟨rfl, hz, hx⟩ _
    have hr1 : Rd w.drew.drew r t k a n c := h1
    have hq1 : w.drew.drew.cell? ⟨q, 0, none⟩ = some (.pointer (some ⟨r, 0, none⟩)) := hqd
    have hx2 := hx
    simp [isAt] at hx2
    refine some_i ⟨_, hq1, some_i ⟨_, hq1, some_i ⟨_, hr1.at_, ?_⟩⟩⟩
    rw [e2]
    refine Calls.then (span36_ok hr1 (k + 2) (by omega) ht) ?_
    rintro v w2 ⟨rfl, rfl⟩
    have hr2 : Rd w.drew.drew.drew r t k a n c := h1
    have hq2 : w.drew.drew.drew.cell? ⟨q, 0, none⟩ = some (.pointer (some ⟨r, 0, none⟩)) := hqd
    have hc2 : Chg NoS w w.drew.drew.drew := (hcd.trans (chg_drew _ _)).trans (chg_drew _ _)
    generalize w.drew.drew.drew = w3 at hr2 hq2 hc2 ⊢
    have hsp := span_le isHex t (k + 2)
    have hcd2 := cut_dig isHex (t := t) (k := k + 2) (by omega)
    unfold try2
    rw [if_pos ⟨hz, hx⟩]
    unfold hexNum
    generalize hee : span isHex t (k + 2) = e at hsp hcd2
    have hel := hsp.2 (by omega)
    have hle := hsp.1
    refine ⟨_, rfl, some_i ⟨_, hq2, some_i ⟨_, hr2.s, some_i ⟨_, hq2, some_i ⟨_, hr2.at_, ?_⟩⟩⟩⟩⟩
    rw [e2]
    refine ⟨by omega, by rw [bs_size]; omega, by omega, by rw [Int.toNat_natCast]; omega, ?_⟩
    rw [Int.toNat_natCast, Int.toNat_natCast, ext_cut]
    refine Calls.then (Parse_ok w3 (cut t (k + 2) e) 16 64 (.inr rfl) (.inr rfl) (fun j hj => okD_hex' (hcd2 j hj)) (by rw [cut_length _ _ _ hle hel]; omega) (hE.chg hc2)) ?_
    rintro v w4 ⟨hv', hc4⟩
    have hc14 := hc2.trans hc4
    have hq4 : w4.cell? ⟨q, 0, none⟩ = some (.pointer (some ⟨r, 0, none⟩)) := hc4.sameOld.cell hq2
    rcases hv' with ⟨hne, hmax, rfl⟩ | ⟨hn, x, t1, z1, rfl⟩
    · have hmax' : vals 16 (cut t (k + 2) e) ≤ 18446744073709551615 := hmax
      refine ⟨_, rfl, _, _, rfl, _, rfl, _, _, rfl, rfl, .inl rfl, ?_⟩
      rw [if_pos (by simp [isNilI])]
      refine some_i ⟨_, hq4, some_i ⟨_, (hr2.chg hc4).at_, ?_⟩⟩
      rw [e18]
      by_cases h18 : k + 18 < e
      · rw [if_pos (by simp; omega), if_neg fun hh => hh.2.2 h18]
        refine some_i ⟨_, hq4, ?_⟩
        refine Calls.then (bad_to h0 hc14 (code := 150) (e := e) (by omega) hel rfl) ?_
        rintro v w5 ⟨p, rfl, hr⟩
        exact ⟨p, rfl, p, rfl, hr⟩
      · rw [if_neg (by simp; omega), if_pos ⟨hne, hmax', h18⟩]
        refine some_i ⟨_, hq4, ?_⟩
        refine Calls.then (put_to h0 hc14 (by omega) hel ht hws (o := closedAt t e (vals 16 (cut t (k + 2) e))) rfl) ?_
        rintro v w5 ⟨p, rfl, hr⟩
        exact ⟨p, rfl, p, rfl, hr⟩
    · refine ⟨_, rfl, _, _, rfl, _, rfl, _, _, rfl, rfl, .inr ⟨_, _, rfl⟩, ?_⟩
      rw [if_neg (by simp [isNilI]), if_neg fun hh => hn ⟨hh.1, hh.2.1⟩]
      refine some_i ⟨_, hq4, ?_⟩
      refine Calls.then (bad_to h0 hc14 (code := 150) (e := e) (by omega) hel rfl) ?_
      rintro v w5 ⟨p, rfl, hr⟩
      exact ⟨p, rfl, p, rfl, hr⟩
  · refine ⟨NoS, fun x => x, some_i ⟨_, hqd, fun x => x, some_i ⟨_, hqd, some_i ⟨fun x => x, _, h1.drew.at_, ?_⟩⟩⟩⟩
    have no : ¬ (isAt t k 48 = true ∧ isAt t (k + 1) 120 = true) → TryR w base r t k ws (try2 t k) (.tuple #[.pointer none, .bool false]) w.drew := fun hn => by
      unfold try2
      rw [if_neg hn]
      exact ⟨rfl, hcd⟩
    refine Calls.then (is_ok h1.drew k 48) ?_
    rintro v w1 ⟨rfl, rfl⟩
    refine ⟨_, rfl, Kept.refl _ _, ?_⟩
    refine ite_both (fun hx => ?_) (fun hx => ?_)
    · simp at hx
      refine ⟨fun x => x, some_i ⟨_, hqd, fun x => x, some_i ⟨_, hqd, some_i ⟨fun x => x, _, h1.drew.at_, ?_⟩⟩⟩⟩
      rw [e1]
      refine Calls.then (is_ok h1.drew (k + 1) 120) ?_
      rintro v w2 ⟨rfl, rfl⟩
      refine ⟨_, rfl, ?_⟩
      refine ite_both (fun hy => ?_) (fun hy => ?_)
      · simp at hy
        exact no fun hh => by rw [hy] at hh; exact absurd hh.2 (by decide)
      · simp at hy
        exact ⟨(), trivial, rfl, hx, hy⟩
    · simp at hx
      exact no fun hh => by rw [hx] at hh; exact absurd hh.1 (by decide)
end Go.Proofs.YthifnahfcbgnoaaDoor.B
