/-
  parse: neither too many terms nor too deep.
-/
import Derived.Test.YtgoanblnkdihfaaDoorPaF
import Derived.Test.YtgoanblnkdihfaaDoorBG
set_option maxRecDepth 100000
set_option linter.unusedVariables false
set_option linter.unusedSimpArgs false
namespace Go.Proofs.YtgoanblnkdihfaaDoor.B
open Go Go.Proofs Go.Proofs.YtgoanblnkdihfaaDoorEng Go.RowKit

/-- the counter's two variables: how many are left; the function itself -/
def Cnt (w0 w : World) (lb db : Nat) (x : Int) : Prop := w.heap[lb]? = some (.cells #[.int .i64 x] 3 (0, 0)) ∧ w.heap[db]? = some (.cells #[.func (.func 25) #[] #[.pointer (some ⟨lb, 0, none⟩), .pointer (some ⟨db, 0, none⟩)]] 74 (0, 0)) ∧ Chg NoS w0 w ∧ w0.heap.size ≤ lb ∧ lb ≠ db
theorem Cnt.keep {w0 w w' : World} {lb db : Nat} {x : Int} (h : Cnt w0 w lb db x) (hc : Chg NoS w w') : Cnt w0 w' lb db x := ⟨hc.blk h.1 (fun x => x), hc.blk h.2.1 (fun x => x), h.2.2.1.trans hc, h.2.2.2⟩
theorem Cnt.set {w0 w : World} {lb db : Nat} {x y : Int} {K : World → Prop} (h : Cnt w0 w lb db x) (hK : ∀ w', Cnt w0 w' lb db y → K w') : setW w ⟨lb, 0, none⟩ (.int .i64 y) K :=
  setW_blk h.1 (by simp) rfl fun w' h1 h2 _ => hK w' ⟨by simpa using h1, h2.blk h.2.1 (fun e => h.2.2.2.2 e.symm), h.2.2.1.trans2 h2 (fun k hk e => by have : k = lb := e; have := h.2.2.2.1; omega), h.2.2.2⟩
theorem lsize_take {ks : List Tm} {j : Nat} (hj : j < ks.length) : lsize (ks.take (j + 1)) = lsize (ks.take j) + tsize ks[j] := by
  rw [List.take_add_one, List.getElem?_eq_getElem hj, lsize_append]
  simp [lsize]
theorem ldepth_take {ks : List Tm} {j : Nat} (hj : j < ks.length) : ldepth (ks.take (j + 1)) = max (ldepth (ks.take j)) (tdepth ks[j]) := by
  rw [List.take_add_one, List.getElem?_eq_getElem hj, ldepth_append]
  simp [ldepth]
theorem lsize_take_le (ks : List Tm) (j : Nat) : lsize (ks.take j) ≤ lsize ks := by
  have h := lsize_append (ks.take j) (ks.drop j)
  rw [List.take_append_drop] at h
  omega
theorem ldepth_take_le (ks : List Tm) (j : Nat) : ldepth (ks.take j) ≤ ldepth ks := by
  have h := ldepth_append (ks.take j) (ks.drop j)
  rw [List.take_append_drop] at h
  omega
/-- is there room? -/
def room (x : Nat) (deep : Nat) (t : Tm) : Bool := decide (tsize t ≤ x ∧ deep + tdepth t ≤ 129)
theorem Down_ok {w0 : World} : ∀ (t : Tm) (A : Addr) (w : World) (lb db : Nat) (x deep : Nat), TmP w0 t A → Cnt w0 w lb db x → x ≤ 4096 → 1 ≤ deep → deep ≤ 130 →
    Calls Tryd.prog 25 #[.pointer (some A), .int .i64 (deep : Int), .pointer (some ⟨lb, 0, none⟩), .pointer (some ⟨db, 0, none⟩)] w (endW (fun v w' => v = .bool (room x deep t) ∧ ∃ y : Int, Cnt w0 w' lb db y ∧ (room x deep t = true → y = (x : Int) - tsize t)) (fun _ _ => False)) := by
  intro t
  generalize hs : tsize t = sz
  induction sz using Nat.strongRecOn generalizing t with
  | _ sz ih =>
    intro A w lb db x deep ht hC hx1 hd1 hd
    subst hs
    refine F25_calls (some A) _ _ _ ?_
    delta F25
    refine some_w ⟨x, by rw [cell_blk hC.1]; rfl, some_w ?_⟩
    refine hC.set (y := (x : Int) - 1) ?_ |> fun h => by rw [i64w _ (by omega) (by omega)]; exact h
    intro w1 hC1
    obtain ⟨op, f, n, b, m, c, h0, h1, h2, h3, hv⟩ := ht
    obtain ⟨ks, rfl, hlen, _, hcm, _, hk⟩ := hv.parts
    have k3 : ∀ {w' : World}, Chg NoS w0 w' → w'.cell? (addK A 3) = some (.slice b m c) := fun h => cell_keep h3 h
    have hsz : tsize (.mk op f n ks) = lsize ks + 1 := by simp only [tsize]
    have hdp : tdepth (.mk op f n ks) = ldepth ks + 1 := by simp only [tdepth]
    refine ⟨fun _ w2 => Cnt w0 w2 lb db ((x : Int) - 1) ∧ 1 ≤ x ∧ deep ≤ 128, ?_, ?_⟩
    · rintro _ w2 ⟨hC2, hx, hdd⟩ _
      refine some_w ⟨_, _, _, k3 hC2.2.2.1, ?_⟩
      refine ⟨fun s w2 => ∃ j : Nat, s = j ∧ j ≤ m ∧ Cnt w0 w2 lb db ((x : Int) - (lsize (ks.take j) + 1 : Nat)) ∧ lsize (ks.take j) + 1 ≤ x ∧ deep + 1 + ldepth (ks.take j) ≤ 129, fun s _ => (m - s).toNat, ⟨0, ⟨rfl, trivial⟩, 0, rfl, by omega, by simpa [lsize] using hC2, by simpa [lsize] using hx, by simp [ldepth]; omega⟩, ?_⟩
      rintro s w3 ⟨j, rfl, hjm, hC3, hle, hdl⟩ _
      by_cases hlt : (j : Int) < m
      · rw [if_pos (by simpa using hlt)]
        have hj : j < ks.length := by omega
        have hle2 := lsize_take_le ks (j + 1)
        have hst := lsize_take hj
        have hle3 := ldepth_take_le ks (j + 1)
        have hdt := ldepth_take hj
        have hCd := hC3.keep (chg_drew w3 NoS)
        obtain ⟨B, rfl, hB⟩ := hk j _ (List.getElem?_eq_getElem hj)
        refine some_w (some_w ⟨some ⟨lb, 0, none⟩, some ⟨db, 0, none⟩, by rw [cell_blk hCd.2.1]; rfl, _, _, _, k3 hCd.2.2.1, by omega, by omega, some_w ?_⟩)
        have ed : IntKind.wrap .i64 ((deep : Int) + 1) = ((deep + 1 : Nat) : Int) := by rw [i64w _ (by omega) (by omega)]; rfl
        rw [ed, Int.toNat_natCast]
        have ex : ((x : Int) - (lsize (ks.take j) + 1 : Nat)) = ((x - (lsize (ks.take j) + 1) : Nat) : Int) := by omega
        rw [ex] at hCd
        refine Calls.then (ih (tsize ks[j]) (by have := tsize_kid (op := op) (f := f) (n := n) (List.getElem_mem hj); omega) ks[j] rfl _ _ lb db _ (deep + 1) hB hCd (by omega) (by omega) (by omega)) ?_
        rintro v w4 ⟨rfl, y, hC4, hy⟩
        refine ⟨_, rfl, ?_⟩
        by_cases hr : room (x - (lsize (ks.take j) + 1)) (deep + 1) ks[j] = true
        · rw [if_neg (by simp [hr])]
          have hy := hy hr
          have hr' := of_decide_eq_true hr
          refine ⟨((j + 1 : Nat) : Int), ⟨by rw [i64w _ (by omega) (by omega)]; rfl, trivial⟩, ⟨j + 1, rfl, by omega, ?_, by omega, by omega⟩, by dsimp only; omega⟩
          have : (x : Int) - (lsize (ks.take (j + 1)) + 1 : Nat) = y := by omega
          rw [this]
          exact hC4
        · rw [if_pos (by simp at hr; simp [hr])]
          have hno : room x deep (.mk op f n ks) = false := by
            simp only [room, decide_eq_true_eq, not_and, Nat.not_le] at hr
            unfold room
            rw [hsz, hdp]
            exact decide_eq_false fun hh => by
              have := hr (by omega)
              omega
          rw [hno]
          exact ⟨rfl, y, hC4, fun h => by cases h⟩
      · rw [if_neg (by simpa using hlt)]
        rw [List.take_of_length_le (by omega)] at hC3 hle hdl
        have hyes : room x deep (.mk op f n ks) = true := by
          unfold room
          rw [hsz, hdp]
          exact decide_eq_true (by omega)
        rw [hyes]
        exact ⟨rfl, _, hC3, fun _ => by rw [hsz]⟩
    · refine some_w ⟨_, by rw [cell_blk hC1.1]; rfl, ?_⟩
      by_cases hx : 1 ≤ x
      · rw [if_pos (by simp; omega)]
        by_cases hdd : deep > 128
        · rw [if_pos (by simp; omega)]
          have hno : room x deep (.mk op f n ks) = false := by
            unfold room
            rw [hdp]
            exact decide_eq_false (by omega)
          rw [hno]
          exact ⟨rfl, _, hC1, fun h => by cases h⟩
        · rw [if_neg (by simp; omega)]
          exact ⟨(), trivial, hC1, hx, by omega⟩
      · rw [if_neg (by simp; omega)]
        have hno : room x deep (.mk op f n ks) = false := by
          unfold room
          rw [hsz]
          exact decide_eq_false (by omega)
        rw [hno]
        exact ⟨rfl, _, hC1, fun h => by cases h⟩
end Go.Proofs.YtgoanblnkdihfaaDoor.B
