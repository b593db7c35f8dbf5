/-
  LinePlays: the walk.
-/
import Derived.Test.YtooebmpjmcmkoaaLinPb
import Derived.Test.YtooebmpjmcmkoaaEngT
set_option maxRecDepth 100000
set_option linter.unusedVariables false
set_option linter.unusedSimpArgs false
namespace Go.Proofs.Ytooebmpjmcmkoaa.B
open Go Go.Proofs Go.Proofs.YtooebmpjmcmkoaaEng

theorem shape33 {B n : Nat} {w : World} {cs : List Value} (h : Is B Try.prog w (n + 2) 33 cs) : ∃ (x0 : Int) (x1 : Int) (x2 : Int) (x3 : Int) (a4 : Option Addr) (n4 c4 : Nat), cs = [.int .i64 x0, .int .i64 x1, .int .i64 x2, .int .u32 x3, .slice a4 n4 c4] ∧ (-9223372036854775808 ≤ x0 ∧ x0 ≤ 9223372036854775807) ∧ (-9223372036854775808 ≤ x1 ∧ x1 ≤ 9223372036854775807) ∧ (-9223372036854775808 ≤ x2 ∧ x2 ≤ 9223372036854775807) ∧ (0 ≤ x3 ∧ x3 ≤ 4294967295) ∧ Is B Try.prog w (n + 1) 31 [.slice a4 n4 c4] := by
  have hl : cs.length = 5 := (is_len h (by kernel_rfl) (c := 5) (by kernel_rfl))
  have h0 := is_top h hl
  have g1 := is_field h0 Try.underlying33 (i := 0) (T := 3) (oo := 0) (c2 := 1) (by kernel_rfl) (by kernel_rfl) (by decide)
  have g2 := is_field h0 Try.underlying33 (i := 1) (T := 3) (oo := 1) (c2 := 1) (by kernel_rfl) (by kernel_rfl) (by decide)
  have g3 := is_field h0 Try.underlying33 (i := 2) (T := 3) (oo := 2) (c2 := 1) (by kernel_rfl) (by kernel_rfl) (by decide)
  have g4 := is_field h0 Try.underlying33 (i := 3) (T := 22) (oo := 3) (c2 := 1) (by kernel_rfl) (by kernel_rfl) (by decide)
  have g5 := is_field h0 Try.underlying33 (i := 4) (T := 31) (oo := 4) (c2 := 1) (by kernel_rfl) (by kernel_rfl) (by decide)
  obtain ⟨x0, e0, f0⟩ := is_int (k := .i64) g1 Try.underlying3
  have r0 : -9223372036854775808 ≤ x0 ∧ x0 ≤ 9223372036854775807 := wf_i64 f0
  obtain ⟨x1, e1, f1⟩ := is_int (k := .i64) g2 Try.underlying3
  have r1 : -9223372036854775808 ≤ x1 ∧ x1 ≤ 9223372036854775807 := wf_i64 f1
  obtain ⟨x2, e2, f2⟩ := is_int (k := .i64) g3 Try.underlying3
  have r2 : -9223372036854775808 ≤ x2 ∧ x2 ≤ 9223372036854775807 := wf_i64 f2
  obtain ⟨x3, e3, f3⟩ := is_int (k := .u32) g4 Try.underlying22
  have r3 : 0 ≤ x3 ∧ x3 ≤ 4294967295 := wf_u32 f3
  obtain ⟨a4, n4, c4, e4, r4⟩ := is_slice g5 Try.underlying31
  refine ⟨x0, x1, x2, x3, a4, n4, c4, list_of hl (by
    intro i hi
    match i, hi with
    | 0, _ => exact e0
    | 1, _ => exact e1
    | 2, _ => exact e2
    | 3, _ => exact e3
    | 4, _ => exact e4
    | i + 5, hi => simp at hi; omega), r0, r1, r2, r3, r4⟩

/-- the two ends, and the document's two -/
structure Two (w0 : World) (p0 p1 p2 p3 pt : Nat) (ma mb : Lm) (va : Value) (la : List (List UInt8)) (X : Nat → Prop) (Fs : Nat → Nat → Prop) (ms : Ents) (Ls : Lss) (w : World) : Prop where
  sy : Sys w0 w X Fs ms Ls
  m0 : ms 0 = some (54, p0, ma)
  m1 : ms 1 = some (54, p1, mb)
  m2 : ms 2 = some (56, p2, ma)
  m3 : ms 3 = some (56, p3, mb)
  l : Ls 10 = some (va, la)
  z : ∀ n, n = 20 ∨ n = 21 → ms n = none ∧ Ls n = none
  f : ∀ k, Fs 20 k ↔ k = pt
  c : w.heap[pt]? = some (.cells #[va] 30 (0, 0))
variable {w0 w w' : World} {p0 p1 p2 p3 pt px : Nat} {ma mb m : Lm} {va va' : Value} {la la' : List (List UInt8)} {X X' : Nat → Prop} {Fs Fs' : Nat → Nat → Prop} {ms ms' : Ents} {Ls Ls' : Lss} {C : Array Value}
theorem Two.one (h : Two w0 p0 p1 p2 p3 pt ma mb va la X Fs ms Ls w) : Pl0 w0 w 0 2 p0 p2 pt ms ma ma va la X Fs ms Ls := ⟨h.sy, h.m0, h.m2, fun _ _ _ => rfl, h.l, h.z, h.f, h.c, by decide⟩
theorem Two.two (h : Two w0 p0 p1 p2 p3 pt ma mb va la X Fs ms Ls w) : Pl0 w0 w 1 3 p1 p3 pt ms mb mb va la X Fs ms Ls := ⟨h.sy, h.m1, h.m3, fun _ _ _ => rfl, h.l, h.z, h.f, h.c, by decide⟩
theorem Two.back (h : Two w0 p0 p1 p2 p3 pt ma mb va la X Fs ms Ls w) (h8 : Pl w0 w' 0 2 p0 p2 pt px C ms m m va' la' X' Fs' ms' Ls') : Two w0 p0 p1 p2 p3 pt m mb va' la' X' Fs' ms' Ls' w' :=
  ⟨h8.sy, h8.mi, by rw [h8.o 1 (by decide) (by decide)]; exact h.m1, h8.mj, by rw [h8.o 3 (by decide) (by decide)]; exact h.m3, h8.l, h8.z, h8.f, h8.c⟩
theorem Two.back2 (h : Two w0 p0 p1 p2 p3 pt ma mb va la X Fs ms Ls w) (h8 : Pl w0 w' 1 3 p1 p3 pt px C ms m m va' la' X' Fs' ms' Ls') : Two w0 p0 p1 p2 p3 pt ma m va' la' X' Fs' ms' Ls' w' :=
  ⟨h8.sy, by rw [h8.o 0 (by decide) (by decide)]; exact h.m0, h8.mi, by rw [h8.o 2 (by decide) (by decide)]; exact h.m2, h8.mj, h8.l, h8.z, h8.f, h8.c⟩
theorem great_ok {w : World} {a : Option Addr} {n c : Nat} {L : Nat → Option (Nat)} (hcell : ∀ j, j < n → ∃ A ra rn rc, a = some A ∧ w.cell? (addK (addK A (j * 5)) 4) = some (.slice ra rn rc)) (hl : n ≤ 1048576) :
    Calls Try.prog 9 #[.slice a n c] w (endW (fun v w' => (∃ b, v = .bool b ∧ (b = false → n ≤ 200)) ∧ w' = w) (fun _ _ => False)) := by
  refine F9_calls _ _ _ ?_
  delta F9
  refine ⟨fun s w' => w' = w ∧ ∃ i : Nat, s.2 = (i : Int) ∧ i ≤ n ∧ i ≤ 201, fun s _ => (202 - s.2).toNat, ⟨(0, 0), ⟨rfl, rfl, trivial⟩, rfl, 0, rfl, by omega, by omega⟩, ?_⟩
  rintro ⟨sm, _⟩ w1 ⟨rfl, i, rfl, hi, hi2⟩ _
  dsimp only
  have fin : (if decide ((n : Int) > 200) = false then (fun v w' => (∃ b, v = Value.bool b ∧ (b = false → n ≤ 200)) ∧ w' = w1) (.bool (decide (sm > 65536))) w1 else (fun v w' => (∃ b, v = Value.bool b ∧ (b = false → n ≤ 200)) ∧ w' = w1) (.bool true) w1) := by
    by_cases h : (n : Int) > 200
    · rw [if_neg (by simp; omega)]
      exact ⟨⟨true, rfl, fun h => by cases h⟩, rfl⟩
    · rw [if_pos (by simp; omega)]
      exact ⟨⟨_, rfl, fun _ => by omega⟩, rfl⟩
  by_cases hlt : i < n
  · rw [if_pos (by simp; omega)]
    by_cases h2 : i ≤ 200
    · rw [if_pos (by simp; omega)]
      obtain ⟨A, ra, rn, rc, rfl, hc⟩ := hcell i hlt
      refine ⟨by omega, by omega, wSome_of rfl ⟨ra, rn, rc, by rw [Int.toNat_natCast]; exact hc, (_, ((i + 1 : Nat) : Int)), ⟨rfl, by rw [i64w _ (by omega) (by omega)]; rfl, trivial⟩, ⟨rfl, i + 1, rfl, by omega, by omega⟩, by dsimp only; omega⟩⟩
    · rw [if_neg (by simp; omega)]
      exact fin
  · rw [if_neg (by simp; omega)]
    exact fin

theorem LinePlays_walk (a0 : Int) (a1 : Int) (a2 : Option Addr) (len2 cap2 : Nat) (w : World) (i0 : Is 1048576 Try.prog w 12 22 [.int .u32 a0]) (i1 : Is 1048576 Try.prog w 12 22 [.int .u32 a1]) (i2 : Is 1048576 Try.prog w 12 23 [.slice a2 len2 cap2]) :
    Calls Try.prog 3 #[.int .u32 a0, .int .u32 a1, .slice a2 len2 cap2] w (endW (fun v w' => v = .bool true ∧ Chg NoS w w') (fun _ _ => False)) := by
  obtain ⟨z2, e2, hw2⟩ := i0.int Try.underlying22
  obtain ⟨z3, e3, hw3⟩ := i1.int Try.underlying22
  have e2' : a0 = z2 := by simpa using e2
  have e3' : a1 = z3 := by simpa using e3
  subst e2' e3'
  have hb2 := wf_u32 hw2
  have hb3 := wf_u32 hw3
  obtain ⟨P, rfl⟩ : ∃ n : Nat, a0 = (n : Int) := ⟨a0.toNat, by omega⟩
  obtain ⟨Q, rfl⟩ : ∃ n : Nat, a1 = (n : Int) := ⟨a1.toNat, by omega⟩
  obtain ⟨a', n', c', e, h1, h2, h3, css, h4, h5, h6⟩ := is_rows (c := 5) Try.underlying23 (by kernel_rfl) (by omega) i2
  injection e with e _
  injection e with ea eb ec
  subst ea eb ec
  have row : ∀ k, k < len2 → ∃ (A : Addr) (x0 x1 x2 : Int) (N : Nat) (a4 : Option Addr) (n4 c4 : Nat) (bs : List UInt8), a2 = some A ∧ N < 4294967296 ∧ (-9223372036854775808 ≤ x2 ∧ x2 ≤ 9223372036854775807) ∧ RowIn w No (.slice a4 n4 c4) bs ∧ bs.length ≤ 1048576 ∧
      w.cell? (addK (addK A (k * 5)) 0) = some (.int .i64 x0) ∧ w.cell? (addK (addK A (k * 5)) 1) = some (.int .i64 x1) ∧ w.cell? (addK (addK A (k * 5)) 2) = some (.int .i64 x2) ∧ w.cell? (addK (addK A (k * 5)) 3) = some (.int .u32 (N : Int)) ∧ w.cell? (addK (addK A (k * 5)) 4) = some (.slice a4 n4 c4) := by
    intro k hk
    have hg := List.getElem?_eq_getElem (show k < css.length by omega)
    obtain ⟨g1, g2⟩ := h5 k _ hg
    obtain ⟨x0, x1, x2, x3, a4, n4, c4, hcs, r0, r1, r2, r3, r4⟩ := shape33 (n := 9) g1
    obtain ⟨v, bs, ev, hrow, hbl⟩ := row_of_is (m := 8) r4
    injection ev with ev _
    subst ev
    have cell : ∀ i v, css[k][i]? = some v → ∃ A, a2 = some A ∧ w.cell? (addK (addK A (k * 5)) i) = some v := fun i v hv => h6 k _ i v hg hv
    rw [hcs] at cell
    obtain ⟨A, hA, q0⟩ := cell 0 _ rfl
    obtain ⟨A1, hA1, q1⟩ := cell 1 _ rfl
    obtain ⟨A2, hA2, q2⟩ := cell 2 _ rfl
    obtain ⟨A3, hA3, q3⟩ := cell 3 _ rfl
    obtain ⟨A4, hA4, q4⟩ := cell 4 _ rfl
    rw [hA] at hA1 hA2 hA3 hA4
    cases hA1
    cases hA2
    cases hA3
    cases hA4
    exact ⟨A, x0, x1, x2, x3.toNat, a4, n4, c4, bs, hA, by omega, r2, hrow, hbl, q0, q1, q2, by rw [q3]; congr 2; omega, q4⟩
  clear h5 h6
  refine F3_calls _ _ _ _ _ ?_
  delta F3
  have wk : ∀ {w' : World}, Chg NoS w w' → Calls Try.prog 10 #[] w' (endW (fun v w' => ∃ b, v = .bool b ∧ ((.bool b : Value) = .bool true ∧ Chg NoS w w')) fun _ _ => False) := fun hc => Calls.then (wakes_ok _) fun v w2 hv => ⟨true, hv.1, rfl, hc.trans hv.2⟩
  refine Calls.then (great_ok (L := fun _ => none) (fun j hj => by obtain ⟨A, _, _, _, _, a4, n4, c4, _, hA, _, _, _, _, _, _, _, _, q4⟩ := row j hj; exact ⟨A, a4, n4, c4, hA, q4⟩) (by omega)) ?_
  rintro v w1 ⟨⟨b, rfl, hb⟩, rfl⟩
  refine ⟨_, rfl, ?_⟩
  cases b with
  | true => rw [if_pos (by simp)]; exact wk (Chg.refl _ _)
  | false =>
    rw [if_neg (by simp)]
    have hl200 := hb rfl
    have h0 : Ent w1 w1 (fun _ => False) (fun _ => none) := ⟨_, Sts.start w1⟩
    refine Calls.then (New_ok (ep := P)) ?_
    rintro v w2 ⟨rfl, rfl⟩
    refine ⟨_, rfl, ?_⟩
    obtain ⟨X1, h1, _⟩ := h0.born (i := 0) (t := 54) (ep := P) rfl (by decide)
    generalize w1.alloc (.cells (ecells (Lm.new P) (.slice none 0 0) (.slice none 0 0)) 54) = w2 at h1 ⊢
    generalize w1.heap.size = p0 at h1 ⊢
    refine Calls.then (New_ok (ep := Q)) ?_
    rintro v w3 ⟨rfl, rfl⟩
    refine ⟨_, rfl, ?_⟩
    obtain ⟨X2, h2, _⟩ := h1.born (i := 1) (t := 54) (ep := Q) rfl (by decide)
    generalize w2.alloc (.cells (ecells (Lm.new Q) (.slice none 0 0) (.slice none 0 0)) 54) = w3 at h2 ⊢
    generalize w2.heap.size = p1 at h2 ⊢
    refine Calls.then (rNew_ok (ep := P)) ?_
    rintro v w4 ⟨rfl, rfl⟩
    refine ⟨_, rfl, ?_⟩
    obtain ⟨X3, h3, _⟩ := h2.born (i := 2) (t := 56) (ep := P) rfl (by decide)
    generalize w3.alloc (.cells (ecells (Lm.new P) (.slice none 0 0) (.slice none 0 0)) 56) = w4 at h3 ⊢
    generalize w3.heap.size = p2 at h3 ⊢
    refine Calls.then (rNew_ok (ep := Q)) ?_
    rintro v w5 ⟨rfl, rfl⟩
    refine ⟨_, rfl, ?_⟩
    obtain ⟨X4, h4, _⟩ := h3.born (i := 3) (t := 56) (ep := Q) rfl (by decide)
    generalize w4.alloc (.cells (ecells (Lm.new Q) (.slice none 0 0) (.slice none 0 0)) 56) = w5 at h4 ⊢
    generalize w4.heap.size = p3 at h4 ⊢
    have hstart : ∃ X Fs ms Ls, Two w1 p0 p1 p2 p3 w5.heap.size (Lm.new P) (Lm.new Q) (.slice none 0 0) [] X Fs ms Ls (w5.alloc (.cells #[.slice none 0 0] 30)) := by
      obtain ⟨Fs, h4⟩ := h4
      have s0 : Sys w1 w5 X4 Fs _ (fun _ => none) := ⟨h4, fun i v l hi => by cases hi⟩
      have s1 := s0.nil (i := 10) rfl
      obtain ⟨s2, _⟩ := s1.own (n := 20) ⟨rfl, rfl⟩ (chg_alloc w5 (.cells #[.slice none 0 0] 30) NoS) (fun k => k = w5.heap.size) (fun k hk => by rw [size_alloc]; omega)
      exact ⟨_, _, _, _, s2, rfl, rfl, rfl, rfl, rfl, fun n hn => by rcases hn with rfl | rfl <;> exact ⟨rfl, rfl⟩, fun k => by rw [updF_same], blk_alloc _ _⟩
    generalize hpt : w5.heap.size = pt at hstart ⊢
    generalize w5.alloc (.cells #[.slice none 0 0] 30) = w6 at hstart ⊢
    refine ⟨fun s w' => ∃ k : Nat, s = (k : Int) ∧ k ≤ len2 ∧ ∃ ma mb va la X Fs ms Ls, Two w1 p0 p1 p2 p3 pt ma mb va la X Fs ms Ls w' ∧ ma.good (32 * k) ∧ mb.good (32 * k) ∧ la.length ≤ k ∧ ∀ d ∈ la, d.length ≤ 20000, fun s _ => (len2 - s).toNat, ⟨0, ⟨rfl, trivial⟩, 0, rfl, Nat.zero_le _, ?_⟩, ?_⟩
    · obtain ⟨X, Fs, ms, Ls, h⟩ := hstart
      exact ⟨_, _, _, _, X, Fs, ms, Ls, h, Lm.good.new (by omega) _, Lm.good.new (by omega) _, Nat.zero_le _, fun d hd => by cases hd⟩
    rintro s w7 ⟨k, rfl, hk, ma, mb, va, la, X, Fs, ms, Ls, h7, hga, hgb, hl7, hd7⟩ _
    have hc7 := h7.sy.st.ch
    by_cases hlt : k < len2
    · rw [if_pos (by simp; omega)]
      obtain ⟨A, x0, x1, x2, N, a4, n4, c4, bs, rfl, hN, hx2, hB, hB2, q0, q1, q2, q3, q4⟩ := row k hlt
      rw [Int.toNat_natCast]
      refine ⟨by omega, by omega, wSome_of rfl ⟨x0, hc7.sameOld.cell q0, ?_⟩⟩
      have next : ((k : Int) + 1) = ((k + 1 : Nat) : Int) := by omega
      by_cases c0 : (IntKind.wrap .i64 ((BitVec.ofInt 64 x0 &&& BitVec.ofInt 64 1).toNat : Int) == 0) = true
      · rw [if_pos c0]
        refine ⟨by omega, by omega, wSome_of rfl ⟨x0, hc7.sameOld.cell q0, x1, hc7.sameOld.cell q1, x2, hc7.sameOld.cell q2, (N : Int), hc7.sameOld.cell q3, a4, n4, c4, hc7.sameOld.cell q4, ?_⟩⟩
        refine Calls.then (act_ok (k := 32 * k) (kl := k) rfl hN hx2 h7.one hga (by omega) hl7 (by omega) hd7 hB hB2) ?_
        rintro v w8 ⟨rfl, px, C, m, va', la', X', Fs', ms', Ls', h8, hg8, hl8, hd8⟩
        refine ⟨_, rfl, ?_⟩
        rw [if_neg (by simp)]
        exact ⟨((k + 1 : Nat) : Int), ⟨by rw [i64w _ (by omega) (by omega)]; rfl, trivial⟩, ⟨k + 1, rfl, by omega, m, mb, va', la', X', Fs', ms', Ls', h7.back h8, hg8.more (by omega), hgb.more (by omega), hl8, hd8⟩, by dsimp only; omega⟩
      · rw [if_neg c0]
        refine ⟨by omega, by omega, wSome_of rfl ⟨x0, hc7.sameOld.cell q0, x1, hc7.sameOld.cell q1, x2, hc7.sameOld.cell q2, (N : Int), hc7.sameOld.cell q3, a4, n4, c4, hc7.sameOld.cell q4, ?_⟩⟩
        refine Calls.then (act_ok (k := 32 * k) (kl := k) rfl hN hx2 h7.two hgb (by omega) hl7 (by omega) hd7 hB hB2) ?_
        rintro v w8 ⟨rfl, px, C, m, va', la', X', Fs', ms', Ls', h8, hg8, hl8, hd8⟩
        refine ⟨_, rfl, ?_⟩
        rw [if_neg (by simp)]
        exact ⟨((k + 1 : Nat) : Int), ⟨by rw [i64w _ (by omega) (by omega)]; rfl, trivial⟩, ⟨k + 1, rfl, by omega, ma, m, va', la', X', Fs', ms', Ls', h7.back2 h8, hga.more (by omega), hg8.more (by omega), hl8, hd8⟩, by dsimp only; omega⟩
    · rw [if_neg (by simp; omega)]
      have came : ∀ {w8 : World} {X Fs ms Ls} {i j p q : Nat} {m : Lm} {R : Value → World → Prop}, Sys w1 w8 X Fs ms Ls → ms i = some (54, p, m) → ms j = some (56, q, m) → i ≠ j → m.good (32 * k) →
          (∀ w9 X' Fs', Sys w1 w9 X' Fs' (upd (upd ms i (54, p, { m with fresh := [] })) j (56, q, { m with fresh := [] })) Ls → R (.bool true) w9) →
          Calls Try.prog 15 #[.pointer (some ⟨p, 0, none⟩)] w8 (endW (fun v w' => ∃ a n c, v = .slice a n c ∧ Calls Try.prog 16 #[.pointer (some ⟨q, 0, none⟩)] w' (endW (fun v w' => ∃ a_1 n_1 c_1, v = .slice a_1 n_1 c_1 ∧ Calls Try.prog 14 #[.slice a n c, .slice a_1 n_1 c_1] w' (endW R (fun _ _ => False))) (fun _ _ => False))) (fun _ _ => False)) := by
        intro w8 X Fs ms Ls i j p q m R hs hi hj hne hg hR
        refine Calls.then (hs.cameO hi) ?_
        rintro v w9 ⟨X2, F2, s2, hk2, hx2, hc2, a2, c2, us2, rfl, ho2, hb2, hn2⟩
        refine ⟨_, _, _, rfl, ?_⟩
        refine Calls.then (s2.rcameO (i := j) (by rw [upd_other hne.symm]; exact hj)) ?_
        rintro v w10 ⟨X3, F3, s3, hk3, hx3, hc3, a3, c3, us3, rfl, ho3, hb3, hn3⟩
        refine ⟨_, _, _, rfl, ?_⟩
        have hfl := hg.ok.fresh
        have hrl3 : ∀ l ∈ m.fresh, l.length ≤ 1099511627776 := fun l hl => by have := hg.fr l hl; omega
        refine Calls.then (All_ok (c := c2) (c2 := c3) (ho2.chg hc3 fun k' hk' hF => hn2 k' hk' j hF).reads (hk3.rows hb2) ho3.reads hb3 (by omega) (by omega) hrl3 hrl3) ?_
        rintro v w11 ⟨rfl, hc11⟩
        rw [show decide (m.fresh = m.fresh) = true from by simp]
        exact hR _ _ _ (s3.quiet hc11).1
      refine came h7.sy h7.m0 h7.m2 (by decide) hga ?_
      intro w8 X8 Fs8 h8
      refine ⟨_, rfl, ?_⟩
      rw [if_pos (by simp)]
      refine came (i := 1) (j := 3) h8 (by rw [upd_other (by decide), upd_other (by decide)]; exact h7.m1) (by rw [upd_other (by decide), upd_other (by decide)]; exact h7.m3) (by decide) hgb ?_
      intro w9 X9 Fs9 h9
      refine ⟨_, rfl, ?_⟩
      rw [if_pos (by simp)]
      exact wk h9.st.ch
end Go.Proofs.Ytooebmpjmcmkoaa.B
