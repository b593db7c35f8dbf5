/-
  scan: words rise, and stand in the text where they say.
-/
import Derived.Test.YthifnahfcbgnoaaDoorScN
import Derived.Test.YthifnahfcbgnoaaDoorEngO
set_option maxRecDepth 100000
set_option linter.unusedVariables false
set_option linter.unusedSimpArgs false
namespace Go.Proofs.YthifnahfcbgnoaaDoor.B
open Go Go.Proofs Go.Proofs.YthifnahfcbgnoaaDoorEng Go.RowKit

def good (t : List UInt8) : Nat → List Wd → Prop
  | _, [] => True
  | k, x :: r => (k ≤ x.pos ∧ x.txt ≠ [] ∧ x.pos + x.txt.length ≤ t.length ∧ cut t x.pos (x.pos + x.txt.length) = x.txt ∧ (x.kind ≠ 2 → x.num = 0) ∧ x.kind ≤ 3) ∧ good t (x.pos + x.txt.length) r
theorem good_len {t : List UInt8} : ∀ {ws : List Wd} {k : Nat}, good t k ws → ws.length ≤ t.length - k
  | [], k, _ => by simp
  | x :: r, k, h => by
    obtain ⟨⟨g1, g2, g3, _⟩, h2⟩ := h
    have := good_len h2
    have h3 : 0 < x.txt.length := List.length_pos_iff.2 g2
    simp only [List.length_cons]
    omega
theorem one_num {t : List UInt8} {k kd j m : Nat} (h : oneAt t k = .ok kd j m) (hk : k < t.length) : kd ≠ 2 → m = 0 := by
  unfold oneAt at h
  split at h
  · intro h2
    exact absurd (num_le h hk).1 h2
  · split at h
    · split at h
      · cases h
      · injection h with h1 h2 h3
        exact fun _ => h3.symm
    · split at h
      · split at h
        · injection h with h1 h2 h3
          exact fun _ => h3.symm
        · cases h
      · split at h
        · injection h with h1 h2 h3
          exact fun _ => h3.symm
        · cases h
theorem scan_good (t : List UInt8) (k : Nat) (ws0 ws : List Wd) (h : scan t k ws0 = .inl ws) : ∃ r, ws = ws0 ++ r ∧ good t k r := by
  by_cases hlt : sk t false k < t.length
  · cases ho : oneAt t (sk t false k) with
    | bad e j => rw [scan_bad hlt ho] at h; cases h
    | ok kd j m =>
      rw [scan_go hlt ho] at h
      have hle := one_le ho hlt
      have hsk := sk_le t false k
      obtain ⟨r, e, hg⟩ := scan_good t j _ ws h
      have hl : (cut t (sk t false k) j).length = j - sk t false k := cut_length _ _ _ (by omega) hle.2.2.2
      refine ⟨⟨kd, cut t (sk t false k) j, m, sk t false k⟩ :: r, by rw [e]; simp, ⟨hsk.1, ?_, ?_, ?_, one_num ho hlt, hle.2.1⟩, ?_⟩
      · intro e
        have e' : cut t (sk t false k) j = [] := e
        rw [e'] at hl
        simp at hl
        omega
      · show sk t false k + (cut t (sk t false k) j).length ≤ t.length
        omega
      · show cut t (sk t false k) (sk t false k + (cut t (sk t false k) j).length) = cut t (sk t false k) j
        rw [hl, show sk t false k + (j - sk t false k) = j by omega]
      · show good t (sk t false k + (cut t (sk t false k) j).length) r
        rw [hl, show sk t false k + (j - sk t false k) = j by omega]
        exact hg
  · rw [scan_end hlt] at h
    injection h with h
    exact ⟨[], by simp [h], trivial⟩
termination_by t.length - k
decreasing_by
  have := (sk_le t false k).1
  have := one_le (by assumption) (by assumption)
  omega
theorem drop_cons {α : Type} {l : List α} {i : Nat} (h : i < l.length) : l.drop i = l[i] :: l.drop (i + 1) := List.drop_eq_getElem_cons h
theorem wcells_at {ws : List Wd} {i : Nat} {x : Wd} (h : ws[i]? = some x) : (wcells ws)[i * 4]? = some (.int .i8 (x.kind : Int)) ∧ (wcells ws)[i * 4 + 1]? = some (.string (bs x.txt)) ∧ (wcells ws)[i * 4 + 2]? = some (.int .u64 (x.num : Int)) ∧ (wcells ws)[i * 4 + 3]? = some (.int .i64 (x.pos : Int)) := by
  induction ws generalizing i with
  | nil => simp at h
  | cons y r ih =>
    cases i with
    | zero =>
      simp only [List.getElem?_cons_zero, Option.some.injEq] at h
      subst h
      exact ⟨rfl, rfl, rfl, rfl⟩
    | succ i =>
      simp only [List.getElem?_cons_succ] at h
      have := ih h
      have e : wcells (y :: r) = [.int .i8 (y.kind : Int), .string (bs y.txt), .int .u64 (y.num : Int), .int .i64 (y.pos : Int)] ++ wcells r := rfl
      rw [e]
      refine ⟨?_, ?_, ?_, ?_⟩
      · rw [List.getElem?_append_right (by simp; omega)]; simpa [Nat.succ_mul] using this.1
      · rw [List.getElem?_append_right (by simp; omega)]; simpa [Nat.succ_mul, show (i + 1) * 4 + 1 - 4 = i * 4 + 1 by omega] using this.2.1
      · rw [List.getElem?_append_right (by simp; omega)]; simpa [Nat.succ_mul, show (i + 1) * 4 + 2 - 4 = i * 4 + 2 by omega] using this.2.2.1
      · rw [List.getElem?_append_right (by simp; omega)]; simpa [Nat.succ_mul, show (i + 1) * 4 + 3 - 4 = i * 4 + 3 by omega] using this.2.2.2
/-- the words of a row, read -/
theorem row_word {w : World} {base n c : Nat} {a : Option Addr} {ws : List Wd} (ho : w.ownsRow base 39 4 (.slice a n c) n (wcells ws)) {i : Nat} {x : Wd} (h : ws[i]? = some x) : ∃ A, a = some A ∧ w.cell? (addK (addK A (i * 4)) 0) = some (.int .i8 (x.kind : Int)) ∧ w.cell? (addK (addK A (i * 4)) 1) = some (.string (bs x.txt)) ∧ w.cell? (addK (addK A (i * 4)) 2) = some (.int .u64 (x.num : Int)) ∧ w.cell? (addK (addK A (i * 4)) 3) = some (.int .i64 (x.pos : Int)) := by
  obtain ⟨h0, h1, h2, h3⟩ := wcells_at h
  obtain ⟨A, rfl, g0⟩ := own_cell ho h0
  obtain ⟨_, e, g1⟩ := own_cell ho h1
  cases e
  obtain ⟨_, e, g2⟩ := own_cell ho h2
  cases e
  obtain ⟨_, e, g3⟩ := own_cell ho h3
  cases e
  refine ⟨A, rfl, ?_, ?_, ?_, ?_⟩ <;> rw [addK_addK]
  · exact g0
  · exact g1
  · exact g2
  · exact g3
theorem stands_ok (w : World) (t : List UInt8) (hL : Libs w) : Calls Tryd.prog 4 #[.string (bs t)] w (endW (fun v w' => v = .bool true ∧ Chg NoS w w') (fun _ _ => False)) := by
  refine F4_calls _ ?_
  delta F4
  refine Calls.then (All_ok w t hL.1) ?_
  rintro v w1 ⟨hc1, hv⟩
  have hL1 := hL.chg hc1
  rw [bs_size]
  cases hall : allR t with
  | inr x =>
    rw [hall] at hv
    obtain ⟨b, rfl, _, _⟩ := hv
    refine ⟨_, rfl, _, _, rfl, _, _, _, rfl, _, _, rfl, rfl, .inr ⟨_, _, rfl⟩, ?_⟩
    rw [if_pos (by rfl), if_pos (by rfl)]
    exact wake_end hL1 hc1
  | inl ws' =>
    rw [hall] at hv
    obtain ⟨a, n, c, rfl, ho, hn⟩ := hv
    have hforms : t.length ≤ 65536 ∧ ∃ ws, ws' = ws ++ [⟨0, [], 0, t.length⟩] ∧ good t 0 ws := by
      unfold allR at hall
      split at hall
      · cases hall
      · rename_i hb
        split at hall
        · rename_i ws hs
          injection hall with hall
          obtain ⟨r, e, hg⟩ := scan_good t 0 [] ws hs
          simp only [List.nil_append] at e
          subst e
          exact ⟨by omega, ws, hall.symm, hg⟩
        · cases hall
    obtain ⟨ht, ws, rfl, hg⟩ := hforms
    have hwl := good_len hg
    have hn1 : n = ws.length + 1 := by simpa using hn
    have hlast := row_word ho (i := ws.length) (x := ⟨0, [], 0, t.length⟩) (by simp)
    obtain ⟨A, rfl, k0, k1, k2, k3⟩ := hlast
    obtain ⟨a', c', e, hnc, _⟩ := own_form ho
    injection e with e1 e2 e3
    subst e3
    refine ⟨_, rfl, _, _, rfl, _, _, _, rfl, _, _, rfl, rfl, .inl rfl, ?_⟩
    rw [if_neg (by decide)]
    have en : IntKind.wrap .i64 ((n : Int) - 1) = (ws.length : Int) := by rw [i64w _ (by omega) (by omega)]; omega
    refine ⟨fun _ w' => w' = w1, ?_, ?_⟩
    · rintro _ w2 rfl _
      rw [en]
      refine ⟨by omega, by omega, ?_⟩
      refine ⟨fun s w' => ∃ i k : Nat, s = ((k : Int), (i : Int)) ∧ i ≤ ws.length ∧ k ≤ t.length ∧ good t k (ws.drop i) ∧ Chg NoS w2 w', fun s _ => (ws.length - s.2).toNat, ⟨(0, 0), ⟨rfl, rfl, trivial⟩, 0, 0, rfl, by omega, by omega, hg, Chg.refl _ _⟩, ?_⟩
      rintro _ w3 ⟨i, k, rfl, hi, hkt, hgd, hc3⟩ _
      dsimp only
      rw [Int.toNat_natCast, Nat.sub_zero]
      by_cases hlt : i < ws.length
      · rw [if_pos (by simp; omega)]
        refine ⟨by omega, by omega, ?_⟩
        have hsl : (Decidable.rec (fun (h : ¬c = (0 : Nat)) => Option.map (fun (a : Addr) => addK a (0 : Nat)) (some A)) (fun (h : c = (0 : Nat)) => some A) (instDecidableEqNat c (0 : Nat)) : Option Addr) = some A := by
          cases instDecidableEqNat c 0 <;> simp [addK_zero]
        rw [hsl]
        rw [drop_cons hlt] at hgd
        obtain ⟨⟨g1, g2, g3, g4, g5, g6⟩, g7⟩ := hgd
        have hx : (ws ++ [⟨0, [], 0, t.length⟩])[i]? = some ws[i] := by rw [List.getElem?_append_left hlt]; exact List.getElem?_eq_getElem hlt
        generalize ws[i] = x at g1 g2 g3 g4 g5 g6 g7 hx
        obtain ⟨A', eA, q0, q1, q2, q3⟩ := row_word (own_of_chg ho hc3 fun _ _ x => x) hx
        cases eA
        rw [Int.toNat_natCast]
        refine some_i ⟨_, q0, _, q1, _, q2, _, q3, ?_⟩
        refine (sets_blk (b := w3.heap.size) (t := 39) (cs := #[.int .i8 0, .string ⟨#[]⟩, .int .u64 0, .int .i64 0]) (vs := [.int .i8 (x.kind : Int), .string (bs x.txt), .int .u64 (x.num : Int), .int .i64 (x.pos : Int)]) (blk_alloc w3 _) rfl (by simp [oneC]) fun w4 b4 c4 z4 => ?_ : setsW _ _ _ _ _)
        have hc34 : Chg NoS w3 w4 := (chg_alloc w3 _ _).trans2 c4 fun k hk e => by
          have : k = w3.heap.size := e
          omega
        have b4d : w4.drew.heap[w3.heap.size]? = some (.cells #[.int .i8 (x.kind : Int), .string (bs x.txt), .int .u64 (x.num : Int), .int .i64 (x.pos : Int)] 39 (0, 0)) := b4
        have l : ∀ (w' : World) (j : Nat) v, w'.heap[w3.heap.size]? = some (.cells #[.int .i8 (x.kind : Int), .string (bs x.txt), .int .u64 (x.num : Int), .int .i64 (x.pos : Int)] 39 (0, 0)) → (#[.int .i8 (x.kind : Int), .string (bs x.txt), .int .u64 (x.num : Int), .int .i64 (x.pos : Int)] : Array Value)[j]? = some v → w'.cell? (addK ⟨w3.heap.size, 0, none⟩ j) = some v := fun w' j v hb hv => by rw [addK_lit, Nat.zero_add, cell_blk hb]; exact hv
        have hcd : Chg NoS w3 w4.drew := hc34.trans (chg_drew _ _)
        refine ⟨fun _ w' => w' = w4.drew, ?_, ?_⟩
        · rintro _ w5 rfl _
          refine ⟨_, l _ 3 _ b4d rfl, _, l _ 1 _ b4d rfl, ?_⟩
          rw [bs_size]
          exact ⟨(((x.pos + x.txt.length : Nat) : Int), ((i + 1 : Nat) : Int)), ⟨by rw [i64w _ (by omega) (by omega)]; rfl, by rw [i64w _ (by omega) (by omega)]; rfl, trivial⟩, ⟨i + 1, _, rfl, by omega, g3, g7, hc3.trans hcd⟩, by dsimp only; omega⟩
        · refine ⟨_, l _ 3 _ b4d rfl, ?_⟩
          rw [if_pos (by simp; omega)]
          refine ⟨_, l _ 1 _ b4d rfl, ?_⟩
          rw [show ({ data := #[] } : ByteArray) = bs [] from rfl, bs_beq, if_pos (by simp [g2])]
          have ep : IntKind.wrap .i64 ((t.length : Int) - (x.txt.length : Int)) = ((t.length - x.txt.length : Nat) : Int) := by rw [i64w _ (by omega) (by omega)]; omega
          have eq_ : IntKind.wrap .i64 ((x.pos : Int) + (x.txt.length : Int)) = ((x.pos + x.txt.length : Nat) : Int) := by rw [i64w _ (by omega) (by omega)]; rfl
          refine ⟨_, l _ 3 _ b4d rfl, _, l _ 1 _ b4d rfl, ?_⟩
          rw [bs_size, ep, if_pos (by simp; omega)]
          refine ⟨_, l _ 3 _ b4d rfl, _, l _ 3 _ b4d rfl, _, l _ 1 _ b4d rfl, ?_⟩
          rw [bs_size, eq_]
          refine ⟨by omega, by omega, by omega, by rw [Int.toNat_natCast]; omega, _, l _ 1 _ b4d rfl, ?_⟩
          rw [Int.toNat_natCast, Int.toNat_natCast, ext_cut, g4, if_pos (by simp)]
          refine ⟨_, l _ 0 _ b4d rfl, ?_⟩
          by_cases h2 : x.kind = 2
          · rw [if_neg (by simp [h2])]
            exact ⟨(), trivial, rfl⟩
          · rw [if_pos (by simp; omega)]
            refine ⟨_, l _ 2 _ b4d rfl, ?_⟩
            rw [if_neg (by simp [g5 h2])]
            exact ⟨(), trivial, rfl⟩
      · rw [if_neg (by simp; omega)]
        exact wake_end (hL1.chg hc3) (hc1.trans hc3)
    · rw [if_pos (by simp; omega), en]
      refine ⟨by omega, by omega, ?_⟩
      rw [Int.toNat_natCast]
      refine some_i ⟨_, k0, _, k1, _, k2, _, k3, ?_⟩
      rw [if_neg (by simp [bs, ByteArray.toList_eq])]
      exact ⟨(), trivial, rfl⟩
theorem ScanStands_walk (s0 : ByteArray) (w : World) (i0 : Is maxLen Tryd.prog w 12 9 [.string s0]) (hL : Libs w) : Calls Tryd.prog 4 #[.string s0] w (endW (fun v w' => v = .bool true ∧ Chg NoS w w') (fun _ _ => False)) := by
  rw [← bs_data s0]
  exact stands_ok w _ hL
end Go.Proofs.YthifnahfcbgnoaaDoor.B
