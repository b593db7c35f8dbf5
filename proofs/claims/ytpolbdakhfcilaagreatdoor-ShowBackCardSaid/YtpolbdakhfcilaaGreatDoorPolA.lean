/-
  Policies: terms in plain Lean; terms in memory.
-/
import Derived.Test.YtpolbdakhfcilaaGreatDoorEngQ
import Derived.Test.YtpolbdakhfcilaaGreatDoorProg
set_option linter.unusedVariables false
set_option linter.unusedSimpArgs false
namespace Go.Proofs.YtpolbdakhfcilaaGreatDoor.B
open Go Go.Proofs Go.Proofs.YtpolbdakhfcilaaGreatDoorEng

inductive Tm where
  | mk (op f n : Int) (ks : List Tm) : Tm

mutual
def tsize : Tm → Nat
  | .mk _ _ _ ks => lsize ks + 1
def lsize : List Tm → Nat
  | [] => 0
  | k :: ks => tsize k + lsize ks
end
mutual
def tdepth : Tm → Nat
  | .mk _ _ _ ks => ldepth ks + 1
def ldepth : List Tm → Nat
  | [] => 0
  | k :: ks => max (tdepth k) (ldepth ks)
end
/-- how many bits a field has -/
def widthS (f : Int) : Nat := if f = 0 ∨ f = 1 then 48 else if f = 2 ∨ f = 7 ∨ f = 8 ∨ f = 9 ∨ f = 10 then 16 else if f = 3 then 12 else if f = 4 ∨ f = 5 then 32 else if f = 6 then 8 else 0
def fitsS (f n : Int) : Bool := decide (0 < widthS f) && decide (n < 2 ^ widthS f)
def mayS (f n : Int) : Bool := decide (f = 0 ∨ f = 1 ∨ f = 4 ∨ f = 5 ∨ f = 7 ∨ f = 8 ∨ (f = 9 ∧ n ≠ 0))
mutual
/-- Is it a predicate (or a policy)? -/
def rightS : Tm → Bool → Bool
  | .mk op f n ks, pred =>
    if op = 0 ∨ op = 1 then pred && decide (f = 0 ∧ n = 0) && decide (ks.length = 0)
    else if op = 2 then pred && decide (ks.length = 0) && fitsS f n && decide (f ≠ 3)
    else if op = 3 then pred && decide (f = 0 ∧ n = 0) && decide (ks.length = 1) && allS ks true
    else if op = 4 ∨ op = 5 then pred && decide (f = 0 ∧ n = 0) && decide (0 < ks.length) && allS ks true
    else if op = 6 then !pred && decide (f = 0 ∧ n = 0) && decide (ks.length = 1) && allS ks true
    else if op = 7 then !pred && decide (ks.length = 0) && mayS f n && fitsS f n
    else if op = 8 ∨ op = 9 then !pred && decide (f = 0 ∧ n = 0) && decide (0 < ks.length) && allS ks false
    else if op = 10 then !pred && decide (f = 0 ∧ n = 0) && decide (ks.length = 1) && allS ks false
    else false
def allS : List Tm → Bool → Bool
  | [], _ => true
  | k :: ks, pred => rightS k pred && allS ks pred
end
theorem tsize_pos : ∀ t, 1 ≤ tsize t
  | .mk _ _ _ ks => by simp [tsize]
theorem tsize_le : ∀ {ks : List Tm} {k : Tm}, k ∈ ks → tsize k ≤ lsize ks
  | [], k, h => by cases h
  | x :: ks, k, h => by
    simp only [lsize]
    rcases List.mem_cons.1 h with rfl | h
    · omega
    · have := tsize_le h; omega
theorem tsize_kid {op f n : Int} {ks : List Tm} {k : Tm} (h : k ∈ ks) : tsize k < tsize (.mk op f n ks) := by
  simp only [tsize]; have := tsize_le h; omega
theorem tdepth_le : ∀ {ks : List Tm} {k : Tm}, k ∈ ks → tdepth k ≤ ldepth ks
  | [], k, h => by cases h
  | x :: ks, k, h => by
    simp only [ldepth]
    rcases List.mem_cons.1 h with rfl | h
    · omega
    · have := tdepth_le h; omega
theorem lsize_append (a b : List Tm) : lsize (a ++ b) = lsize a + lsize b := by
  induction a with
  | nil => simp [lsize]
  | cons x a ih => simp only [List.cons_append, lsize, ih]; omega
theorem lsize_len : ∀ ks : List Tm, ks.length ≤ lsize ks
  | [] => by simp [lsize]
  | k :: ks => by simp only [lsize, List.length_cons]; have := tsize_pos k; have := lsize_len ks; omega
theorem ldepth_append (a b : List Tm) : ldepth (a ++ b) = max (ldepth a) (ldepth b) := by
  induction a with
  | nil => simp [ldepth]
  | cons x a ih => simp only [List.cons_append, ldepth, ih]; omega
theorem allS_append (a b : List Tm) (p : Bool) : allS (a ++ b) p = (allS a p && allS b p) := by
  induction a with
  | nil => simp [allS]
  | cons x a ih => simp only [List.cons_append, allS, ih, Bool.and_assoc]

/-! ### terms in memory -/
mutual
/-- A term whose four cells hold these values. -/
def TVal (w : World) : Tm → Int → Int → Int → Option Addr → Nat → Nat → Prop
  | .mk op f n ks, op', f', n', a, len, c => op' = op ∧ f' = f ∧ n' = n ∧ len = ks.length ∧ len ≤ c ∧ c ≤ 9223372036854775807 ∧ (-128 ≤ op ∧ op ≤ 127 ∧ -128 ≤ f ∧ f ≤ 127 ∧ 0 ≤ n ∧ n ≤ 18446744073709551615) ∧ KsAt w ks a 0
def KsAt (w : World) : List Tm → Option Addr → Nat → Prop
  | [], _, _ => True
  | k :: ks, a, i => (∃ A op f n b m c, a = some A ∧ w.cell? (addK (addK A (i * 4)) 0) = some (.int .i8 op) ∧ w.cell? (addK (addK A (i * 4)) 1) = some (.int .i8 f) ∧ w.cell? (addK (addK A (i * 4)) 2) = some (.int .u64 n) ∧ w.cell? (addK (addK A (i * 4)) 3) = some (.slice b m c) ∧ TVal w k op f n b m c) ∧ KsAt w ks a (i + 1)
end
/-- A term at an address. -/
def TmP (w : World) (t : Tm) (A : Addr) : Prop := ∃ op f n b m c, w.cell? (addK A 0) = some (.int .i8 op) ∧ w.cell? (addK A 1) = some (.int .i8 f) ∧ w.cell? (addK A 2) = some (.int .u64 n) ∧ w.cell? (addK A 3) = some (.slice b m c) ∧ TVal w t op f n b m c
theorem cell_keep' {S : Nat → Prop} {w w' : World} {A : Addr} {v : Value} (h : w.cell? A = some v) (hc : Chg NoS w w') : w'.cell? A = some v := by
  have hlt : A.block < w.heap.size := by
    rcases Nat.lt_or_ge A.block w.heap.size with h' | h'
    · exact h'
    · simp [World.cell?, Array.getElem?_eq_none h'] at h
  rw [← h]
  unfold World.cell?
  rw [hc.block _ hlt (fun x => x)]
theorem cell_keep {w w' : World} {A : Addr} {v : Value} (h : w.cell? A = some v) (hc : Chg NoS w w') : w'.cell? A = some v := cell_keep' (S := NoS) h hc
mutual
theorem TVal.keep {w w' : World} (hc : Chg NoS w w') : ∀ {t : Tm} {op f n : Int} {a : Option Addr} {len c : Nat}, TVal w t op f n a len c → TVal w' t op f n a len c
  | .mk _ _ _ ks, op, f, n, a, len, c, h => by
    simp only [TVal] at h ⊢
    exact ⟨h.1, h.2.1, h.2.2.1, h.2.2.2.1, h.2.2.2.2.1, h.2.2.2.2.2.1, h.2.2.2.2.2.2.1, KsAt.keep hc h.2.2.2.2.2.2.2⟩
theorem KsAt.keep {w w' : World} (hc : Chg NoS w w') : ∀ {ks : List Tm} {a : Option Addr} {i : Nat}, KsAt w ks a i → KsAt w' ks a i
  | [], _, _, _ => by simp only [KsAt]
  | k :: ks, a, i, h => by
    simp only [KsAt] at h ⊢
    obtain ⟨⟨A, op, f, n, b, m, c, h1, h2, h3, h4, h5, h6⟩, h7⟩ := h
    exact ⟨⟨A, op, f, n, b, m, c, h1, cell_keep h2 hc, cell_keep h3 hc, cell_keep h4 hc, cell_keep h5 hc, TVal.keep hc h6⟩, KsAt.keep hc h7⟩
end
theorem TmP.keep {w w' : World} {t : Tm} {A : Addr} (h : TmP w t A) (hc : Chg NoS w w') : TmP w' t A := by
  obtain ⟨op, f, n, b, m, c, h1, h2, h3, h4, h5⟩ := h
  exact ⟨op, f, n, b, m, c, cell_keep h1 hc, cell_keep h2 hc, cell_keep h3 hc, cell_keep h4 hc, h5.keep hc⟩
theorem KsAt.get {w : World} : ∀ {ks : List Tm} {a : Option Addr} {i : Nat}, KsAt w ks a i → ∀ (j : Nat) (k : Tm), ks[j]? = some k → ∃ A, a = some A ∧ TmP w k (addK A ((i + j) * 4))
  | [], _, _, _, j, k, hj => by simp at hj
  | x :: ks, a, i, h, 0, k, hj => by
    simp only [KsAt] at h
    simp only [List.getElem?_cons_zero, Option.some.injEq] at hj
    subst hj
    obtain ⟨⟨A, op, f, n, b, m, c, h1, h2, h3, h4, h5, h6⟩, _⟩ := h
    exact ⟨A, h1, op, f, n, b, m, c, h2, h3, h4, h5, h6⟩
  | x :: ks, a, i, h, j + 1, k, hj => by
    simp only [KsAt] at h
    simp only [List.getElem?_cons_succ] at hj
    obtain ⟨A, h1, h2⟩ := KsAt.get h.2 j k hj
    exact ⟨A, h1, by rw [show i + (j + 1) = i + 1 + j from by omega]; exact h2⟩
theorem KsAt.mk {w : World} {a : Option Addr} : ∀ {ks : List Tm} {i : Nat}, (∀ (j : Nat) (k : Tm), ks[j]? = some k → ∃ A, a = some A ∧ TmP w k (addK A ((i + j) * 4))) → KsAt w ks a i
  | [], _, _ => by simp only [KsAt]
  | x :: ks, i, h => by
    simp only [KsAt]
    refine ⟨?_, KsAt.mk fun j k hj => ?_⟩
    · obtain ⟨A, h1, op, f, n, b, m, c, h2, h3, h4, h5, h6⟩ := h 0 x rfl
      exact ⟨A, op, f, n, b, m, c, h1, h2, h3, h4, h5, h6⟩
    · obtain ⟨A, h1, h2⟩ := h (j + 1) k (by simpa using hj)
      exact ⟨A, h1, by rw [show i + 1 + j = i + (j + 1) from by omega]; exact h2⟩
/-- What a term's cells tell. -/
theorem TVal.parts {w : World} {t : Tm} {op f n : Int} {a : Option Addr} {len c : Nat} (h : TVal w t op f n a len c) : ∃ ks, t = .mk op f n ks ∧ len = ks.length ∧ len ≤ c ∧ c ≤ 9223372036854775807 ∧ (-128 ≤ op ∧ op ≤ 127 ∧ -128 ≤ f ∧ f ≤ 127 ∧ 0 ≤ n ∧ n ≤ 18446744073709551615) ∧ ∀ (j : Nat) (k : Tm), ks[j]? = some k → ∃ A, a = some A ∧ TmP w k (addK A (j * 4)) := by
  obtain ⟨op', f', n', ks⟩ := t
  simp only [TVal] at h
  obtain ⟨rfl, rfl, rfl, h1, h2, h3, h4, h5⟩ := h
  exact ⟨ks, rfl, h1, h2, h3, h4, fun j k hj => by have := h5.get j k hj; rwa [Nat.zero_add] at this⟩
theorem TVal.of {w : World} {op f n : Int} {a : Option Addr} {len c : Nat} {ks : List Tm} (h1 : len = ks.length) (h2 : len ≤ c) (h3 : c ≤ 9223372036854775807) (h4 : -128 ≤ op ∧ op ≤ 127 ∧ -128 ≤ f ∧ f ≤ 127 ∧ 0 ≤ n ∧ n ≤ 18446744073709551615) (h5 : ∀ (j : Nat) (k : Tm), ks[j]? = some k → ∃ A, a = some A ∧ TmP w k (addK A (j * 4))) : TVal w (.mk op f n ks) op f n a len c := by
  simp only [TVal]
  exact ⟨trivial, trivial, trivial, h1, h2, h3, h4, KsAt.mk fun j k hj => by rw [Nat.zero_add]; exact h5 j k hj⟩
end Go.Proofs.YtpolbdakhfcilaaGreatDoor.B
