/-
  Policies: how many terms there are, and how deep they are: the program's count and the document's.
-/
import Derived.Test.YtbpckcmejkcciaaPolB
import Derived.Laws.Small
import Derived.Lib.MinMax
set_option linter.unusedVariables false
set_option linter.unusedSimpArgs false
namespace Go.Proofs.Ytbpckcmejkcciaa.B
open Go Go.Proofs Go.Proofs.YtbpckcmejkcciaaEng

theorem wSome_some (A : Addr) (K : Addr → Prop) : wSome (some A) K = K A := rfl
/-- The counter's two variables: how many are left; the function itself. -/
def Cnt (w0 w : World) (lb db : Nat) (x : Int) : Prop := w.heap[lb]? = some (.cells #[.int .i64 x] 3 (0, 0)) ∧ w.heap[db]? = some (.cells #[.func (.func 49) #[] #[.pointer (some ⟨lb, 0, none⟩), .pointer (some ⟨db, 0, none⟩)]] 73 (0, 0)) ∧ Chg NoS w0 w ∧ w0.heap.size ≤ lb ∧ lb ≠ db
theorem Cnt.keep {w0 w w' : World} {lb db : Nat} {x : Int} (h : Cnt w0 w lb db x) (hc : Chg NoS w w') : Cnt w0 w' lb db x := ⟨hc.blk h.1 (fun x => x), hc.blk h.2.1 (fun x => x), h.2.2.1.trans hc, h.2.2.2⟩
theorem Cnt.set {w0 w : World} {lb db : Nat} {x y : Int} {K : World → Prop} (h : Cnt w0 w lb db x) (hK : ∀ w', Cnt w0 w' lb db y → K w') : setW w ⟨lb, 0, none⟩ (.int .i64 y) K :=
  setW_blk h.1 (by simp) rfl fun w' h1 h2 _ => hK w' ⟨by simpa using h1, h2.blk h.2.1 (fun e => h.2.2.2.2 e.symm), h.2.2.1.trans2 h2 (fun k hk e => by have : k = lb := e; have := h.2.2.2.1; omega), h.2.2.2⟩
def leftS (x : Int) (n : Nat) : Int := if (n : Int) ≤ x then x - n else -1

theorem lsize_take {ks : List Tm} {j : Nat} (hj : j < ks.length) : lsize (ks.take (j + 1)) = lsize (ks.take j) + tsize ks[j] := by
  rw [List.take_add_one, List.getElem?_eq_getElem hj, lsize_append]
  simp [lsize]
theorem lsize_take_le (ks : List Tm) (j : Nat) : lsize (ks.take j) ≤ lsize ks := by
  have h := lsize_append (ks.take j) (ks.drop j)
  rw [List.take_append_drop] at h
  omega

theorem Down_ok {w0 : World} : ∀ (t : Tm) (A : Addr) (w : World) (lb db : Nat) (x : Int), TmP w0 t A → Cnt w0 w lb db x → 0 ≤ x → x ≤ 4096 →
    Calls Try.prog 49 #[.pointer (some A), .pointer (some ⟨lb, 0, none⟩), .pointer (some ⟨db, 0, none⟩)] w (endW (fun v w' => v = .tuple #[] ∧ Cnt w0 w' lb db (leftS x (tsize t))) (fun _ _ => False)) := by
  intro t
  generalize hs : tsize t = sz
  induction sz using Nat.strongRecOn generalizing t with
  | _ sz ih =>
    intro A w lb db x ht hC hx0 hx1
    subst hs
    refine F49_calls (some A) _ _ ?_
    delta F49
    refine ⟨x, by rw [cell_blk hC.1]; rfl, ?_⟩
    rw [wSome_some]
    refine hC.set ?_
    intro w1 hC1
    rw [i64w _ (by omega) (by omega)] at hC1
    obtain ⟨op, f, n, b, m, c, h0, h1, h2, h3, hv⟩ := ht
    obtain ⟨ks, rfl, hlen, _, hcm, _, hk⟩ := hv.parts
    have k3 : ∀ {w' : World}, Chg NoS w0 w' → w'.cell? (addK A 3) = some (.slice b m c) := fun h => cell_keep h3 h
    refine ⟨_, _, _, k3 hC1.2.2.1, ?_⟩
    refine ⟨fun s w2 => ∃ j : Nat, s = j ∧ j ≤ m ∧ Cnt w0 w2 lb db (leftS x (lsize (ks.take j) + 1)), fun s _ => (m - s).toNat, ⟨0, ⟨rfl, trivial⟩, 0, rfl, by omega, ?_⟩, ?_⟩
    · have : leftS x (lsize (ks.take 0) + 1) = x - 1 := by
        unfold leftS
        simp [lsize]
        omega
      rw [this]
      exact hC1
    rintro s w2 ⟨j, rfl, hjm, hC2⟩ _
    by_cases hlt : (j : Int) < m
    · rw [if_pos (by simpa using hlt)]
      have hj : j < ks.length := by omega
      refine ⟨_, by rw [cell_blk hC2.1]; rfl, ?_⟩
      have hle := lsize_take_le ks (j + 1)
      have hst := lsize_take hj
      by_cases hneg : leftS x (lsize (ks.take j) + 1) < 0
      · rw [if_pos (by simpa using hneg)]
        refine ⟨rfl, ?_⟩
        have hgt : ¬ ((lsize (ks.take j) + 1 : Nat) : Int) ≤ x := fun h => by
          unfold leftS at hneg
          rw [if_pos h] at hneg
          omega
        have e1 : leftS x (lsize (ks.take j) + 1) = -1 := by unfold leftS; rw [if_neg hgt]
        have e2 : leftS x (tsize (.mk op f n ks)) = -1 := by
          unfold leftS
          rw [if_neg]
          simp only [tsize]
          omega
        rw [e2, ← e1]
        exact hC2
      rw [if_neg (by simpa using hneg)]
      have hle2 : ((lsize (ks.take j) + 1 : Nat) : Int) ≤ x := by
        refine Classical.byContradiction fun h => hneg ?_
        unfold leftS
        rw [if_neg h]
        omega
      have e1 : leftS x (lsize (ks.take j) + 1) = x - (lsize (ks.take j) + 1 : Nat) := by unfold leftS; rw [if_pos hle2]
      have hCd := hC2.keep (chg_drew w2 NoS)
      obtain ⟨B, rfl, hB⟩ := hk j _ (List.getElem?_eq_getElem hj)
      refine ⟨some ⟨lb, 0, none⟩, some ⟨db, 0, none⟩, by rw [cell_blk hCd.2.1]; rfl, _, _, _, k3 hCd.2.2.1, by omega, by omega, ?_⟩
      rw [e1] at hCd
      refine Calls.then (ih (tsize ks[j]) (by have := tsize_kid (op := op) (f := f) (n := n) (List.getElem_mem hj); omega) ks[j] rfl _ _ lb db _ hB hCd (by omega) (by omega)) ?_
      rintro v w3 ⟨rfl, hC3⟩
      refine ⟨(j : Int) + 1, ⟨by rw [i64w _ (by omega) (by omega)], trivial⟩, ⟨j + 1, by omega, by omega, ?_⟩, by first | omega | (dsimp only; omega)⟩
      have : leftS (x - (lsize (ks.take j) + 1 : Nat)) (tsize ks[j]) = leftS x (lsize (ks.take (j + 1)) + 1) := by
        unfold leftS
        rw [hst]
        by_cases h : ((tsize ks[j] : Nat) : Int) ≤ x - (lsize (ks.take j) + 1 : Nat)
        · rw [if_pos h, if_pos (by omega)]; omega
        · rw [if_neg h, if_neg (by omega)]
      rw [← this]
      exact hC3
    · rw [if_neg (by simpa using hlt)]
      refine ⟨rfl, ?_⟩
      rw [List.take_of_length_le (by omega)] at hC2
      simpa [tsize] using hC2

/-- The terms of a row. -/
def TmRow (w : World) (ts : List Tm) (a : Option Addr) : Prop := ∀ (j : Nat) (k : Tm), ts[j]? = some k → ∃ A, a = some A ∧ TmP w k (addK A (j * 4))
theorem TmRow.keep {w w' : World} {ts : List Tm} {a : Option Addr} (h : TmRow w ts a) (hc : Chg NoS w w') : TmRow w' ts a := fun j k hj => by
  obtain ⟨A, h1, h2⟩ := h j k hj
  exact ⟨A, h1, h2.keep hc⟩
theorem CSize_ok {w : World} {ts : List Tm} {a : Option Addr} {m c : Nat} (hm : m = ts.length) (hml : m ≤ 1000000) (h : TmRow w ts a) (x : Int) (hx0 : 0 ≤ x) (hx1 : x ≤ 4096) :
    Calls Try.prog 35 #[.int .i64 x, .slice a m c] w (endW (fun v w' => v = .int .i64 (leftS x (lsize ts)) ∧ Chg NoS w w') (fun _ _ => False)) := by
  refine F35_calls x a m c ?_
  delta F35
  have h1 := blk_alloc w (.cells #[.int .i64 x] 3)
  have c1 := chg_alloc w (.cells #[.int .i64 x] 3) NoS
  have s1 := size_alloc w (.cells #[.int .i64 x] 3)
  generalize w.alloc (.cells #[.int .i64 x] 3) = w1 at *
  have h2 := blk_alloc w1 (.cells #[.nilFunc] 73)
  have c2 := chg_alloc w1 (.cells #[.nilFunc] 73) NoS
  refine setW_blk h2 (by simp) rfl ?_
  intro w3 h3 c3 s3
  have hne : w.heap.size ≠ w1.heap.size := by omega
  have hC : Cnt w w3 w.heap.size w1.heap.size x := ⟨c3.blk (c2.blk h1 (fun x => x)) (fun e => hne e), by simpa using h3, (c1.trans c2).trans2 c3 (fun k hk e => by have : k = w1.heap.size := e; omega), Nat.le_refl _, hne⟩
  refine ⟨fun s w4 => ∃ j : Nat, s = j ∧ j ≤ m ∧ Cnt w w4 w.heap.size w1.heap.size (leftS x (lsize (ts.take j))), fun s _ => (m - s).toNat, ⟨0, ⟨rfl, trivial⟩, 0, rfl, by omega, ?_⟩, ?_⟩
  · have : leftS x (lsize (ts.take 0)) = x := by unfold leftS; simp [lsize, hx0]
    rw [this]
    exact hC
  rintro s w4 ⟨j, rfl, hjm, hC4⟩ _
  by_cases hlt : (j : Int) < m
  · rw [if_pos (by simpa using hlt)]
    have hj : j < ts.length := by omega
    have hst := lsize_take hj
    refine ⟨_, by rw [cell_blk hC4.1]; rfl, ?_⟩
    by_cases hle : ((lsize (ts.take j) : Nat) : Int) ≤ x
    · have e1 : leftS x (lsize (ts.take j)) = x - (lsize (ts.take j) : Nat) := by unfold leftS; rw [if_pos hle]
      rw [if_pos (by rw [e1]; simp; omega)]
      obtain ⟨B, rfl, hB⟩ := h j _ (List.getElem?_eq_getElem hj)
      have hCd := hC4.keep (chg_drew w4 NoS)
      refine ⟨by omega, by omega, some ⟨w.heap.size, 0, none⟩, some ⟨w1.heap.size, 0, none⟩, by rw [cell_blk hCd.2.1]; rfl, ?_⟩
      rw [e1] at hCd
      refine Calls.then (Down_ok ts[j] _ _ _ _ _ hB hCd (by omega) (by omega)) ?_
      rintro v w5 ⟨rfl, hC5⟩
      refine ⟨(j : Int) + 1, ⟨by rw [i64w _ (by omega) (by omega)], trivial⟩, ⟨j + 1, by omega, by omega, ?_⟩, by first | omega | (dsimp only; omega)⟩
      have : leftS (x - (lsize (ts.take j) : Nat)) (tsize ts[j]) = leftS x (lsize (ts.take (j + 1))) := by
        unfold leftS
        rw [hst]
        by_cases h : ((tsize ts[j] : Nat) : Int) ≤ x - (lsize (ts.take j) : Nat)
        · rw [if_pos h, if_pos (by omega)]; omega
        · rw [if_neg h, if_neg (by omega)]
      rw [← this]
      exact hC5
    · have e1 : leftS x (lsize (ts.take j)) = -1 := by unfold leftS; rw [if_neg hle]
      rw [if_neg (by rw [e1]; decide)]
      refine ⟨(j : Int) + 1, ⟨by rw [i64w _ (by omega) (by omega)], trivial⟩, ⟨j + 1, by omega, by omega, ?_⟩, by first | omega | (dsimp only; omega)⟩
      have : leftS x (lsize (ts.take (j + 1))) = -1 := by unfold leftS; rw [if_neg (by omega)]
      rw [this, ← e1]
      exact hC4
  · rw [if_neg (by simpa using hlt)]
    rw [List.take_of_length_le (by omega)] at hC4
    exact ⟨_, by rw [cell_blk hC4.1]; rfl, rfl, hC4.2.2.1⟩
/-- too many, or too deep -/
def bigS (ts : List Tm) : Bool := decide (4096 < lsize ts) || decide (128 < ldepth ts)
theorem Big_ok {w : World} {ts : List Tm} {a : Option Addr} {m c : Nat} (hm : m = ts.length) (hml : m ≤ 1000000) (h : TmRow w ts a) :
    Calls Try.prog 24 #[.slice a m c] w (endW (fun v w' => v = .bool (bigS ts) ∧ Chg NoS w w') (fun _ _ => False)) := by
  refine F24_calls a m c ?_
  delta F24
  refine Calls.then (CSize_ok hm hml h 4096 (by omega) (by omega)) ?_
  rintro v w1 ⟨rfl, hc1⟩
  refine ⟨_, rfl, ?_⟩
  by_cases hbig : lsize ts ≤ 4096
  · have e1 : leftS 4096 (lsize ts) = 4096 - (lsize ts : Nat) := by unfold leftS; rw [if_pos (by omega)]
    rw [if_neg (by rw [e1]; simp; omega)]
    have h' := h.keep hc1
    refine ⟨fun s w2 => ∃ j : Nat, s = j ∧ j ≤ m ∧ w2 = w1 ∧ ldepth (ts.take j) ≤ 128, fun s _ => (m - s).toNat, ⟨0, ⟨rfl, trivial⟩, 0, rfl, by omega, rfl, by simp [ldepth]⟩, ?_⟩
    rintro s w2 ⟨j, rfl, hjm, rfl, hd⟩ _
    by_cases hlt : (j : Int) < m
    · rw [if_pos (by simpa using hlt)]
      have hj : j < ts.length := by omega
      obtain ⟨B, rfl, hB⟩ := h' j _ (List.getElem?_eq_getElem hj)
      refine ⟨by omega, by omega, ?_⟩
      refine Calls.then (Deep_ok 128 _ _ w2 (by omega) hB) ?_
      rintro v w3 ⟨rfl, rfl⟩
      refine ⟨_, rfl, ?_⟩
      by_cases hdp : 128 < tdepth ts[j]
      · rw [if_pos (by simpa using hdp)]
        refine ⟨?_, hc1⟩
        have := tdepth_le (List.getElem_mem hj)
        unfold bigS
        have h2 : 128 < ldepth ts := by omega
        simp [h2]
      · rw [if_neg (by simpa using hdp)]
        refine ⟨(j : Int) + 1, ⟨by rw [i64w _ (by omega) (by omega)], trivial⟩, ⟨j + 1, by omega, by omega, by trivial, ?_⟩, by first | omega | (dsimp only; omega)⟩
        rw [List.take_add_one, List.getElem?_eq_getElem hj, ldepth_append]
        simp [ldepth]
        omega
    · rw [if_neg (by simpa using hlt)]
      refine ⟨?_, hc1⟩
      rw [List.take_of_length_le (by omega)] at hd
      unfold bigS
      simp
      omega
  · have e1 : leftS 4096 (lsize ts) = -1 := by unfold leftS; rw [if_neg (by omega)]
    rw [if_pos (by rw [e1]; decide)]
    refine ⟨?_, hc1⟩
    unfold bigS
    simp
    omega
end Go.Proofs.Ytbpckcmejkcciaa.B
