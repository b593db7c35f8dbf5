import Derived.Test.YtpolbdakhfcilaaGreatDoorPaF
import Derived.Test.YtpolbdakhfcilaaGreatDoorBG
/-
  parse: neither too many terms nor too deep.
-/
set_option maxRecDepth 100000
set_option linter.unusedVariables false
set_option linter.unusedSimpArgs false
namespace Go.Proofs.YtpolbdakhfcilaaGreatDoor.B
open Go Go.Proofs Go.Proofs.YtpolbdakhfcilaaGreatDoorEng Go.RowKit

/-- the counter's two variables: how many are left; the function itself -/
def Cnt (w0 w : World) (lb db : Nat) (x : Int) : Prop := w.heap[lb]? = some (.cells #[.int .i64 x] 3 (0, 0)) ∧ w.heap[db]? = some (.cells #[.func (.func 52) #[] #[.pointer (some ⟨lb, 0, none⟩), .pointer (some ⟨db, 0, none⟩)]] 105 (0, 0)) ∧ Chg NoS w0 w ∧ w0.heap.size ≤ lb ∧ lb ≠ db
theorem Cnt.keep {w0 w w' : World} {lb db : Nat} {x : Int} (h : Cnt w0 w lb db x) (hc : Chg NoS w w') : Cnt w0 w' lb db x := ⟨hc.blk h.1 (fun x => x), hc.blk h.2.1 (fun x => x), h.2.2.1.trans hc, h.2.2.2⟩
theorem Cnt.set {w0 w : World} {lb db : Nat} {x y : Int} {K : World → Prop} (h : Cnt w0 w lb db x) (hK : ∀ w', Cnt w0 w' lb db y → K w') : setW w ⟨lb, 0, none⟩ (.int .i64 y) K :=
  setW_blk h.1 (by simp) rfl fun w' h1 h2 _ => hK w' ⟨by simpa using h1, h2.blk h.2.1 (fun e => h.2.2.2.2 e.symm), h.2.2.1.trans2 h2 (fun k hk e => by have : k = lb := e; have := h.2.2.2.1; omega), h.2.2.2⟩
theorem lsize_take {ks : List Tm} {j : Nat} (hj : j < ks.length) : lsize (ks.take (j + 1)) = lsize (ks.take j) + tsize ks[j] := by
  rw [List.take_add_one, List.getElem?_eq_getElem hj, lsize_append]
  simp [lsize]
theorem ldepth_take {ks : List Tm} {j : Nat} (hj : j < ks.length) : ldepth (ks.take (j + 1)) = max (ldepth (ks.take j)) (tdepth ks[j]) := by
  rw [List.take_add_one, List.getElem?_eq_getElem hj, ldepth_append]
  simp [ldepth]
theorem lsize_take_le (ks : List Tm) (j : Nat) : lsize (ks.take j) ≤ lsize ks := by
  have h := lsize_append (ks.take j) (ks.drop j)
  rw [List.take_append_drop] at h
  omega
theorem ldepth_take_le (ks : List Tm) (j : Nat) : ldepth (ks.take j) ≤ ldepth ks := by
  have h := ldepth_append (ks.take j) (ks.drop j)
  rw [List.take_append_drop] at h
  omega
/-- is there room? -/
def room (x : Nat) (deep : Nat) (t : Tm) : Bool := decide (tsize t ≤ x ∧ deep + tdepth t ≤ 129)
theorem Down_ok {w0 : World} : ∀ (t : Tm) (A : Addr) (w : World) (lb db : Nat) (x deep : Nat), TmP w0 t A → Cnt w0 w lb db x → x ≤ 4096 → 1 ≤ deep → deep ≤ 130 →
    Calls Tryz.prog 52 #[.pointer (some A), .int .i64 (deep : Int), .pointer (some ⟨lb, 0, none⟩), .pointer (some ⟨db, 0, none⟩)] w (endW (fun v w' => v = .bool (room x deep t) ∧ ∃ y : Int, Cnt w0 w' lb db y ∧ (room x deep t = true → y = (x : Int) - tsize t)) (fun _ _ => False)) := by
  intro t
  generalize hs : tsize t = sz
  induction sz using Nat.strongRecOn generalizing t with
  | _ sz ih =>
    intro A w lb db x deep ht hC hx1 hd1 hd
    subst hs
    refine F52_calls (some A) _ _ _ ?_
    delta F52
    refine some_w ⟨x, by rw [cell_blk hC.1]; rfl, some_w ?_⟩
    refine hC.set (y := (x : Int) - 1) ?_ |> fun h => by rw [i64w _ (by omega) (by omega)]; exact h
    intro w1 hC1
    obtain ⟨op, f, n, b, m, c, h0, h1, h2, h3, hv⟩ := ht
    obtain ⟨ks, rfl, hlen, _, hcm, _, hk⟩ := hv.parts
    have k3 : ∀ {w' : World}, Chg NoS w0 w' → w'.cell? (addK A 3) = some (.slice b m c) := fun h => cell_keep h3 h
    have hsz : tsize (.mk op f n ks) = lsize ks + 1 := by simp only [tsize]
    have hdp : tdepth (.mk op f n ks) = ldepth ks + 1 := by simp only [tdepth]
    refine ⟨fun _ w2 => Cnt w0 w2 lb db ((x : Int) - 1) ∧ 1 ≤ x ∧ deep ≤ 128, ?_, ?_⟩
    · rintro _ w2 ⟨hC2, hx, hdd⟩ _
      refine some_w ⟨_, _, _, k3 hC2.2.2.1, ?_⟩
      refine ⟨fun s w2 => ∃ j : Nat, s = j ∧ j ≤ m ∧ Cnt w0 w2 lb db ((x : Int) - (lsize (ks.take j) + 1 : Nat)) ∧ lsize (ks.take j) + 1 ≤ x ∧ deep + 1 + ldepth (ks.take j) ≤ 129, fun s _ => (m - s).toNat, ⟨0, ⟨rfl, trivial⟩, 0, rfl, by omega, by simpa [lsize] using hC2, by simpa [lsize] using hx, by simp [ldepth]; omega⟩, ?_⟩
      rintro s w3 ⟨j, rfl, hjm, hC3, hle, hdl⟩ _
      by_cases hlt : (j : Int) < m
      · rw [if_pos (by simpa using hlt)]
        have hj : j < ks.length := by omega
        have hle2 := lsize_take_le ks (j + 1)
        have hst := lsize_take hj
        have hle3 := ldepth_take_le ks (j + 1)
        have hdt := ldepth_take hj
        have hCd := hC3.keep (chg_drew w3 NoS)
        obtain ⟨B, rfl, hB⟩ := hk j _ (List.getElem?_eq_getElem hj)
        refine some_w (some_w ⟨some ⟨lb, 0, none⟩, some ⟨db, 0, none⟩, by rw [cell_blk hCd.2.1]; rfl, _, _, _, k3 hCd.2.2.1, by omega, by omega, some_w ?_⟩)
        have ed : IntKind.wrap .i64 ((deep : Int) + 1) = ((deep + 1 : Nat) : Int) := by rw [i64w _ (by omega) (by omega)]; rfl
        rw [ed, Int.toNat_natCast]
        have ex : ((x : Int) - (lsize (ks.take j) + 1 : Nat)) = ((x - (lsize (ks.take j) + 1) : Nat) : Int) := by omega
        rw [ex] at hCd
        refine Calls.then (ih (tsize ks[j]) (by have := tsize_kid (op := op) (f := f) (n := n) (List.getElem_mem hj); omega) ks[j] rfl _ _ lb db _ (deep + 1) hB hCd (by omega) (by omega) (by omega)) ?_
        rintro v w4 ⟨rfl, y, hC4, hy⟩
        refine ⟨_, rfl, ?_⟩
        by_cases hr : room (x - (lsize (ks.take j) + 1)) (deep + 1) ks[j] = true
        · rw [if_neg (by simp [hr])]
          have hy := hy hr
          have hr' := of_decide_eq_true hr
          refine ⟨((j + 1 : Nat) : Int), ⟨by rw [i64w _ (by omega) (by omega)]; rfl, trivial⟩, ⟨j + 1, rfl, by omega, ?_, by omega, by omega⟩, by dsimp only; omega⟩
          have : (x : Int) - (lsize (ks.take (j + 1)) + 1 : Nat) = y := by omega
          rw [this]
          exact hC4
        · rw [if_pos (by simp at hr; simp [hr])]
          have hno : room x deep (.mk op f n ks) = false := by
            simp only [room, decide_eq_true_eq, not_and, Nat.not_le] at hr
            unfold room
            rw [hsz, hdp]
            exact decide_eq_false fun hh => by
              have := hr (by omega)
              omega
          rw [hno]
          exact ⟨rfl, y, hC4, fun h => by cases h⟩
      · rw [if_neg (by simpa using hlt)]
        rw [List.take_of_length_le (by omega)] at hC3 hle hdl
        have hyes : room x deep (.mk op f n ks) = true := by
          unfold room
          rw [hsz, hdp]
          exact decide_eq_true (by omega)
        rw [hyes]
        exact ⟨rfl, _, hC3, fun _ => by rw [hsz]⟩
    · refine some_w ⟨_, by rw [cell_blk hC1.1]; rfl, ?_⟩
      by_cases hx : 1 ≤ x
      · rw [if_pos (by simp; omega)]
        by_cases hdd : deep > 128
        · rw [if_pos (by simp; omega)]
          have hno : room x deep (.mk op f n ks) = false := by
            unfold room
            rw [hdp]
            exact decide_eq_false (by omega)
          rw [hno]
          exact ⟨rfl, _, hC1, fun h => by cases h⟩
        · rw [if_neg (by simp; omega)]
          exact ⟨(), trivial, hC1, hx, by omega⟩
      · rw [if_neg (by simp; omega)]
        have hno : room x deep (.mk op f n ks) = false := by
          unfold room
          rw [hsz]
          exact decide_eq_false (by omega)
        rw [hno]
        exact ⟨rfl, _, hC1, fun h => by cases h⟩
end Go.Proofs.YtpolbdakhfcilaaGreatDoor.B

/-
  parse: a policy that is neither too big nor too deep.
-/
set_option maxRecDepth 100000
set_option linter.unusedVariables false
set_option linter.unusedSimpArgs false
namespace Go.Proofs.YtpolbdakhfcilaaGreatDoor.B
open Go Go.Proofs Go.Proofs.YtpolbdakhfcilaaGreatDoorEng Go.RowKit

abbrev Qu := ByteArray × Tm
def QsAt (w : World) (qs : List Qu) (a : Option Addr) : Prop := ∀ (j : Nat) (q : Qu), qs[j]? = some q → ∃ A, a = some A ∧ w.cell? (addK (addK A (j * 5)) 0) = some (.string q.1) ∧ TmP w q.2 (addK (addK A (j * 5)) 1)
theorem QsAt.keep {w w' : World} {qs : List Qu} {a : Option Addr} (h : QsAt w qs a) (hc : Chg NoS w w') : QsAt w' qs a := fun j q hq => by
  obtain ⟨A, e, h1, h2⟩ := h j q hq
  exact ⟨A, e, cell_keep h1 hc, h2.keep hc⟩
def preds (qs : List Qu) : List Tm := qs.map (·.2)
abbrev parr (v : V4) (a : Option Addr) (n c : Nat) : Array Value := #[.int .i8 v.op, .int .i8 v.f, .int .u64 v.n, .slice v.b v.m v.c, .slice a n c]
/-- neither too many terms nor too deep -/
def smallS (l : List Tm) : Bool := decide (lsize l ≤ 4096 ∧ ldepth l ≤ 128)
theorem smallS_snoc (l : List Tm) (t : Tm) : smallS (l ++ [t]) = (smallS l && room (4096 - lsize l) 1 t) := by
  have h1 := lsize_append l [t]
  have h2 := ldepth_append l [t]
  have e1 : lsize [t] = tsize t := by simp [lsize]
  have e2 : ldepth [t] = tdepth t := by simp [ldepth]
  rw [e1] at h1
  rw [e2] at h2
  unfold smallS room
  rw [h1, h2, ← Bool.decide_and]
  exact decide_eq_decide.2 (by omega)
theorem small_ok {w : World} {u : V4} {qa : Option Addr} {qc : Nat} {main : Tm} {qs : List Qu} (hm : u.is w main) (hq : QsAt w qs qa) (hl : qs.length ≤ 1000000) :
    Calls Tryz.prog 28 #[.agg (parr u qa qs.length qc)] w (endW (fun v w' => v = .bool (smallS (main :: preds qs)) ∧ Chg NoS w w') (fun _ _ => False)) := by
  refine F28_calls _ _ _ _ _ _ _ _ _ ?_
  delta F28
  have c0 : Chg NoS w (w.alloc (.cells (parr u qa qs.length qc) 29)) := chg_alloc w _ _
  have b0 : (w.alloc (.cells (parr u qa qs.length qc) 29)).heap[w.heap.size]? = some (.cells (parr u qa qs.length qc) 29 (0, 0)) := blk_alloc w _
  generalize (w.alloc (.cells (parr u qa qs.length qc) 29)) = w1 at c0 b0 ⊢
  refine setW_blk (blk_alloc w1 _) (by simp) rfl fun w2 b2 c2 z2 => ?_
  have c12 : Chg NoS w1 w2 := (chg_alloc w1 _ _).trans2 c2 fun k hk e => by have : k = w1.heap.size := e; omega
  rw [size_alloc] at z2
  refine setW_blk (blk_alloc w2 _) (by simp) rfl fun w3 b3 c3 z3 => ?_
  have c23 : Chg NoS w2 w3 := (chg_alloc w2 _ _).trans2 c3 fun k hk e => by have : k = w2.heap.size := e; omega
  rw [size_alloc] at z3
  have s1 := c0.size
  have c13 := c12.trans c23
  have b03 := c13.blk b0 (fun x => x)
  have hcnt : Cnt w1 w3 w1.heap.size w2.heap.size ((4096 : Nat) : Int) := ⟨c23.blk (by simpa using b2) (fun x => x), by simpa using b3, c13, Nat.le_refl _, by omega⟩
  have pc : ∀ {w' : World}, Chg NoS w1 w' → w'.heap[w.heap.size]? = some (.cells (parr u qa qs.length qc) 29 (0, 0)) := fun h => h.blk b0 (fun x => x)
  have tm : TmP w1 main (addK ⟨w.heap.size, 0, none⟩ 0) := ⟨u.op, u.f, u.n, u.b, u.m, u.c, by rw [addK_zero, addK_lit, cell_blk b0]; rfl, by rw [addK_zero, addK_lit, cell_blk b0]; rfl, by rw [addK_zero, addK_lit, cell_blk b0]; rfl, by rw [addK_zero, addK_lit, cell_blk b0]; rfl, hm.keep c0⟩
  have hq1 := hq.keep c0
  refine ⟨some ⟨w1.heap.size, 0, none⟩, some ⟨w2.heap.size, 0, none⟩, by rw [cell_blk hcnt.2.1]; rfl, ?_⟩
  refine Calls.then (Down_ok (w0 := w1) main _ w3 _ _ 4096 1 tm hcnt (by omega) (by omega) (by omega)) ?_
  rintro v w4 ⟨rfl, y, hC4, hy⟩
  refine ⟨_, rfl, _, _, _, by rw [addK_lit, cell_blk (pc hC4.2.2.1)]; rfl, ?_⟩
  have r0 : room 4096 1 main = smallS [main] := by
    have := smallS_snoc [] main
    simpa [smallS, lsize, ldepth] using this.symm
  refine ⟨fun s w' => ∃ (j : Nat) (y : Int), s = (smallS (main :: preds (qs.take j)), (j : Int)) ∧ j ≤ qs.length ∧ Cnt w1 w' w1.heap.size w2.heap.size y ∧ (smallS (main :: preds (qs.take j)) = true → y = (4096 : Int) - lsize (main :: preds (qs.take j))), fun s _ => (qs.length - s.2).toNat, ⟨(room 4096 1 main, 0), ⟨rfl, rfl, trivial⟩, 0, y, by simp [preds, r0], by omega, hC4, ?_⟩, ?_⟩
  · intro h
    have := hy (by rw [r0]; simpa [preds] using h)
    simp [preds, lsize]
    omega
  rintro _ w5 ⟨j, y, rfl, hj, hC5, hy5⟩ _
  dsimp only
  by_cases hlt : j < qs.length
  · rw [if_pos (by simp; omega)]
    have hnext : main :: preds (qs.take (j + 1)) = (main :: preds (qs.take j)) ++ [qs[j].2] := by
      rw [List.take_add_one, List.getElem?_eq_getElem hlt]
      simp only [preds, List.map_append, List.cons_append]
      rfl
    have hs := smallS_snoc (main :: preds (qs.take j)) qs[j].2
    rw [← hnext] at hs
    have hCd := hC5.keep (chg_drew w5 NoS)
    cases hb : smallS (main :: preds (qs.take j)) with
    | true =>
      rw [if_pos rfl]
      have hy6 := hy5 hb
      have hle : lsize (main :: preds (qs.take j)) ≤ 4096 := (of_decide_eq_true hb).1
      obtain ⟨A, rfl, _, ht⟩ := hq1 j _ (List.getElem?_eq_getElem hlt)
      refine ⟨some ⟨w1.heap.size, 0, none⟩, some ⟨w2.heap.size, 0, none⟩, by rw [cell_blk hCd.2.1]; rfl, _, _, _, by rw [addK_lit, cell_blk (pc hCd.2.2.1)]; rfl, by omega, by omega, some_w ?_⟩
      rw [Int.toNat_natCast]
      rw [hy6, show (4096 : Int) - (lsize (main :: preds (qs.take j)) : Nat) = ((4096 - lsize (main :: preds (qs.take j)) : Nat) : Int) by omega] at hCd
      refine Calls.then (Down_ok (w0 := w1) qs[j].2 _ _ _ _ _ 1 ht hCd (by omega) (by omega) (by omega)) ?_
      rintro v w6 ⟨rfl, y', hC6, hy'⟩
      rw [hb, Bool.true_and] at hs
      refine ⟨_, rfl, (smallS (main :: preds (qs.take (j + 1))), ((j + 1 : Nat) : Int)), ⟨by rw [hs], by rw [i64w _ (by omega) (by omega)]; rfl, trivial⟩, ⟨j + 1, y', rfl, by omega, hC6, fun h => ?_⟩, by dsimp only; omega⟩
      have := hy' (by rw [← hs]; exact h)
      have hl2 : lsize (main :: preds (qs.take (j + 1))) = lsize (main :: preds (qs.take j)) + tsize qs[j].2 := by
        rw [hnext, lsize_append]
        simp [lsize]
      rw [hs] at h
      have hr := of_decide_eq_true h
      rw [hl2, this]
      omega
    | false =>
      rw [if_neg (by simp)]
      rw [hb, Bool.false_and] at hs
      exact ⟨(false, ((j + 1 : Nat) : Int)), ⟨rfl, by rw [i64w _ (by omega) (by omega)]; rfl, trivial⟩, ⟨j + 1, y, by rw [hs], by omega, hCd, fun h => by rw [hs] at h; cases h⟩, by dsimp only; omega⟩
  · rw [if_neg (by simp; omega)]
    obtain rfl : j = qs.length := by omega
    rw [List.take_length]
    exact ⟨rfl, c0.trans hC5.2.2.1⟩
end Go.Proofs.YtpolbdakhfcilaaGreatDoor.B

/-
  parse: a query.
-/
set_option maxRecDepth 100000
set_option linter.unusedVariables false
set_option linter.unusedSimpArgs false
namespace Go.Proofs.YtpolbdakhfcilaaGreatDoor.B
open Go Go.Proofs Go.Proofs.YtpolbdakhfcilaaGreatDoorEng Go.RowKit

def isName (x : Wd) : Bool := decide (x.kind = 1) && (keyOf x.txt).isNone
/-- what a query's reading answers, at its name -/
def Qa (ws : List Wd) (i : Nat) (r : Pr) : Prop := match ws[i]? with
  | none => False
  | some x => if isName x = true then (if isW ws (i + 1) 3 [61] = true then Pa ws (.row .pred) (i + 2) r else r = .bad (i + 1)) else r = .bad i
def qarr (s : List UInt8) (u : V4) : Array Value := #[.string (bs s), .int .i8 u.op, .int .i8 u.f, .int .u64 u.n, .slice u.b u.m u.c]
theorem query_ok {w : World} {q : Rp} {ws : List Wd} {i : Nat} {x : Wd} (h : Rdr w q ws i) (hx : ws[i]? = some x) (hp : PaAt q ws 51 (.row .pred) (i + 2)) :
    Calls Tryz.prog 25 #[.pointer (some ⟨q.b, 0, none⟩)] w (endW (fun v w' => ∃ t j u, Qa ws i (.ok t j) ∧ v = .agg (qarr x.txt u) ∧ u.own w' (fun k => w.heap.size ≤ k) t ∧ Rdr w' q ws j ∧ Chg (OnlyB q.b) w w') (BadP w q ws (Qa ws i))) := by
  refine F25_calls _ ?_
  delta F25
  have c0 : Chg NoS w (w.alloc (.cells #[.string { data := #[] }, .int .i8 0, .int .i8 0, .int .u64 0, .slice none 0 0] 41)) := chg_alloc w _ _
  have b0 : (w.alloc (.cells #[.string { data := #[] }, .int .i8 0, .int .i8 0, .int .u64 0, .slice none 0 0] 41)).heap[w.heap.size]? = some (.cells [.string { data := #[] }, .int .i8 0, .int .i8 0, .int .u64 0, .slice none 0 0].toArray 41 (0, 0)) := blk_alloc w _
  have z0 : (w.alloc (.cells #[.string { data := #[] }, .int .i8 0, .int .i8 0, .int .u64 0, .slice none 0 0] 41)).heap.size = w.heap.size + 1 := size_alloc w _
  generalize (w.alloc (.cells #[.string { data := #[] }, .int .i8 0, .int .i8 0, .int .u64 0, .slice none 0 0] 41)) = w0 at c0 b0 z0 ⊢
  have h0 := h.keep c0
  have hqb := lt_of_blk h.blk
  have hbl : w.heap.size ≠ q.b := by omega
  have small := h.st.small
  refine Calls.then (next_ok h0 hx) ?_
  rintro v w1 ⟨rfl, c1⟩
  have s1 := c1.size
  refine aggW ?_
  refine (put4 (w := w1) (vs := [.int .i8 (x.kind : Int), .string (bs x.txt), .int .u64 (x.num : Int), .int .i64 (x.pos : Int)]) (cs := [.int .i8 0, .string { data := #[] }, .int .u64 0, .int .i64 0]) (blk_alloc w1 _) (chg_alloc w1 _ _) (Nat.le_refl _) rfl (by simp [oneC]) fun w2 b2 c2 _ z2 => ?_ : setsW _ _ _ _ _)
  rw [size_alloc] at z2
  have c02 := (c0.trans c1).trans c2
  have r2 := (c1.trans c2).blk b0 (fun x => x)
  generalize hg : w1.heap.size = g at b2 z2 ⊢
  have hwg : w.heap.size < g := by omega
  refine ⟨fun _ w5 => Rdr w5 q ws i ∧ Chg NoS w w5 ∧ w5.heap[w.heap.size]? = some (.cells [.string { data := #[] }, .int .i8 0, .int .i8 0, .int .u64 0, .slice none 0 0].toArray 41 (0, 0)) ∧ w5.heap[g]? = some (.cells [.int .i8 (x.kind : Int), .string (bs x.txt), .int .u64 (x.num : Int), .int .i64 (x.pos : Int)].toArray 71 (0, 0)) ∧ isName x = true, ?_, ?_⟩
  · rintro _ w5 ⟨h5, c5, r5, b5, hn⟩ _
    have hk1 : x.kind = 1 := by simp [isName] at hn; exact hn.1
    have hlt := h.st.more i x hx (by omega)
    have hq : ∀ r, Qa ws i r ↔ (if isW ws (i + 1) 3 [61] = true then Pa ws (.row .pred) (i + 2) r else r = .bad (i + 1)) := fun r => by
      unfold Qa
      rw [hx]
      dsimp only
      rw [if_pos hn]
    refine some_w ⟨_, by rw [addK_lit, cell_blk h5.blk]; rfl, some_w ?_⟩
    refine set_i (j := i + 1) h5 hlt (by rw [i64w _ (by omega) (by omega)]; rfl) fun w6 h6 c6 _ => ?_
    have cB6 : Chg (OnlyB q.b) w w6 := (toB c5 _).trans c6
    have r6 := c6.blk r5 hbl
    have b6 := c6.blk b5 (by show ¬ g = q.b; omega)
    refine Calls.thenP (must_ok h6 3 [61] (by omega)) ?_ fun c w' hb => ⟨i + 1, (hq _).2 (by rw [if_neg (by simp [hb.1])]), hb.2.from cB6⟩
    rintro v w7 ⟨hw, h7, c7⟩
    have cB7 := cB6.trans c7
    have r7 := c7.blk r6 hbl
    have b7 := c7.blk b6 (by show ¬ g = q.b; omega)
    have h7d := h7.keep (chg_drew w7 NoS)
    have s7 := lt_of_blk b7
    refine ⟨OnlyB q.b, by rw [addK_block]; show ¬ g = q.b; omega, _, get_blk (w := w7.drew) b7 1 _ rfl, ?_⟩
    refine Calls.thenP (hp w7.drew h7d) ?_ fun c w' hb => BadP.from hb (cB7.trans (chg_drew w7 _)) fun j hj => (hq _).2 (by rw [if_pos hw]; exact hj)
    rintro v w8 ⟨t, j, u, hP, rfl, hu, h8, c8⟩
    have cB8 := (cB7.trans (chg_drew w7 _)).trans c8
    have r8 := c8.blk (show w7.drew.heap[w.heap.size]? = _ from r7) hbl
    refine agg4 ⟨⟨c8.size, fun b hb hs => c8.block b hb hs⟩, ?_⟩
    refine (putR (vs := [.string (bs x.txt), .int .i8 u.op, .int .i8 u.f, .int .u64 u.n, .slice u.b u.m u.c]) r8 cB8 (Nat.le_refl _) rfl (by simp [oneC]) fun w9 b9 cB9 c9 => ?_ : setsW _ _ _ _ _)
    have sd := size_drew w7
    refine ⟨_, get_blk b9 0 _ rfl, _, get_blk b9 1 _ rfl, _, get_blk b9 2 _ rfl, _, get_blk b9 3 _ rfl, _, _, _, get_blk b9 4 _ rfl, t, j, u, (hq _).2 (by rw [if_pos hw]; exact hP), rfl, hu.keep c9 (fun b hb e => by have : b = w.heap.size := e; omega) (fun b hb => by omega), h8.keep2 c9 h (Nat.le_refl _), cB9⟩
  · have h2 := h.keep c02
    have h2d := h2.keep (chg_drew w2 NoS)
    have c2d := c02.trans (chg_drew w2 NoS)
    have b2d : w2.drew.heap[g]? = _ := b2
    refine some_w ⟨_, by rw [addK_lit, cell_blk h2d.blk]; rfl, _, get_blk b2d 1 _ rfl, ?_⟩
    unfold runV
    rw [look_key h2d.st.keys]
    refine ⟨_, rfl, _, _, rfl, _, rfl, _, _, rfl, _, rfl, rfl, _, get_blk b2d 0 _ rfl, ?_⟩
    have giveup : isName x = false → Qa ws i (.bad i) := fun hn => by
      unfold Qa
      rw [hx]
      dsimp only
      rw [if_neg (by simp [hn])]
    by_cases hk1 : x.kind = 1
    · rw [if_pos (by simp [hk1])]
      cases hkf : keyOf x.txt with
      | none =>
        rw [if_neg (by simp)]
        exact ⟨(), trivial, h2d, c2d, r2, b2d, by simp [isName, hk1, hkf]⟩
      | some f =>
        rw [if_pos (by simp)]
        exact Calls.bad (bad_ok h2d) (toB c2d _) fun c w' hb => ⟨i, giveup (by simp [isName, hkf]), hb⟩
    · rw [if_neg (by simp; omega)]
      exact Calls.bad (bad_ok h2d) (toB c2d _) fun c w' hb => ⟨i, giveup (by simp [isName, hk1]), hb⟩
end Go.Proofs.YtpolbdakhfcilaaGreatDoor.B

/-
  parse: the table of names.
-/
set_option maxRecDepth 100000
set_option linter.unusedVariables false
set_option linter.unusedSimpArgs false
namespace Go.Proofs.YtpolbdakhfcilaaGreatDoor.B
open Go Go.Proofs Go.Proofs.YtpolbdakhfcilaaGreatDoorEng Go.RowKit

def nmAt (j : Nat) : List UInt8 := (keyL.getD (9 + j) ([], 0)).1
def nmRow : Array Value := #[.string (bs [115, 114, 99]), .string (bs [100, 115, 116]), .string (bs [107, 105, 110, 100]), .string (bs [118, 108, 97, 110]), .string (bs [102, 114, 111, 109]), .string (bs [116, 111]), .string (bs [112, 114, 111, 116, 111]), .string (bs [115, 112, 111, 114, 116]), .string (bs [100, 112, 111, 114, 116]), .string (bs [112, 111, 114, 116]), .string (bs [115, 119, 105, 116, 99, 104])]
theorem nmRow_at : ∀ j, j < 11 → nmRow[j]? = some (.string (bs (nmAt j)))
  | 0, _ => rfl
  | 1, _ => rfl
  | 2, _ => rfl
  | 3, _ => rfl
  | 4, _ => rfl
  | 5, _ => rfl
  | 6, _ => rfl
  | 7, _ => rfl
  | 8, _ => rfl
  | 9, _ => rfl
  | 10, _ => rfl
  | n + 11, h => by omega
theorem keyV_next : ∀ j, j < 11 → keyV.take (9 + (j + 1)) = keyV.take (9 + j) ++ [(nmAt j, .int .i8 (IntKind.wrap .i8 (j : Int)))]
  | 0, _ => rfl
  | 1, _ => rfl
  | 2, _ => rfl
  | 3, _ => rfl
  | 4, _ => rfl
  | 5, _ => rfl
  | 6, _ => rfl
  | 7, _ => rfl
  | 8, _ => rfl
  | 9, _ => rfl
  | 10, _ => rfl
  | n + 11, h => by omega
theorem nm_new : ∀ j, j < 11 → nmAt j ∉ (keyV.take (9 + j)).map Prod.fst := by
  intro j hj
  have h : ∀ i : Fin 11, nmAt i.1 ∉ ((keyL.map Prod.fst).take (9 + i.1)) := by decide
  have e : (keyV.take (9 + j)).map Prod.fst = (keyL.map Prod.fst).take (9 + j) := by
    rw [List.map_take]
    congr 1
  rw [e]
  exact h ⟨j, hj⟩
theorem keys_ok (w : World) : Calls Tryz.prog 22 #[] w (endW (fun v w' => ∃ m, v = .map (some m) ∧ w.heap.size ≤ m ∧ Mp w' m keyV ∧ Chg NoS w w') (fun _ _ => False)) := by
  refine F22_calls ?_
  delta F22
  refine mp_new fun w0 m0 c0 z0 => ?_
  refine ⟨_, rfl, ?_⟩
  refine mp_put (s := [99, 111, 117, 110, 116]) (v := .int .i8 (-1)) map58 m0 (by decide) fun w1 m1 c1 z1 => ?_
  refine mp_put (s := [102, 105, 108, 116, 101, 114]) (v := .int .i8 (-1)) map58 m1 (by decide) fun w2 m2 c2 z2 => ?_
  refine mp_put (s := [105, 100]) (v := .int .i8 (-1)) map58 m2 (by decide) fun w3 m3 c3 z3 => ?_
  refine mp_put (s := [100, 114, 111, 112]) (v := .int .i8 (-1)) map58 m3 (by decide) fun w4 m4 c4 z4 => ?_
  refine mp_put (s := [105, 102]) (v := .int .i8 (-1)) map58 m4 (by decide) fun w5 m5 c5 z5 => ?_
  refine mp_put (s := [116, 104, 101, 110]) (v := .int .i8 (-1)) map58 m5 (by decide) fun w6 m6 c6 z6 => ?_
  refine mp_put (s := [101, 108, 115, 101]) (v := .int .i8 (-1)) map58 m6 (by decide) fun w7 m7 c7 z7 => ?_
  refine mp_put (s := [116, 114, 117, 101]) (v := .int .i8 (-1)) map58 m7 (by decide) fun w8 m8 c8 z8 => ?_
  refine mp_put (s := [102, 97, 108, 115, 101]) (v := .int .i8 (-1)) map58 m8 (by decide) fun w9 m9 c9 z9 => ?_
  have hm : Mp w9 w.heap.size (keyV.take (9 + 0)) := m9
  have cB : Chg (OnlyB w.heap.size) w0 w9 := (((((((c1.trans c2).trans c3).trans c4).trans c5).trans c6).trans c7).trans c8).trans c9
  have hc : Chg NoS w w9 := c0.trans2 cB fun k hk e => by have : k = w.heap.size := e; omega
  have hz : w9.heap.size = w.heap.size + 1 := by rw [z9, z8, z7, z6, z5, z4, z3, z2, z1, z0]
  clear m0 m1 m2 m3 m4 m5 m6 m7 m8 m9 c0 c1 c2 c3 c4 c5 c6 c7 c8 c9 z0 z1 z2 z3 z4 z5 z6 z7 z8 z9 cB
  have ca := chg_alloc w9 (.cells nmRow 9) NoS
  have ba := blk_alloc w9 (.cells nmRow 9)
  refine ⟨fun s w' => ∃ j : Nat, s = (j : Int) ∧ j ≤ 11 ∧ Mp w' w.heap.size (keyV.take (9 + j)) ∧ w'.heap[w9.heap.size]? = some (.cells nmRow 9 (0, 0)) ∧ Chg NoS w w', fun s _ => (11 - s).toNat, ⟨0, ⟨rfl, trivial⟩, 0, rfl, by omega, ca.blk hm (fun x => x), ba, hc.trans ca⟩, ?_⟩
  rintro _ w1 ⟨j, rfl, hj, hm1, hb1, hc1⟩ _
  by_cases hlt : j < 11
  · rw [if_pos (by simp; omega)]
    refine ⟨by omega, by omega, _, by rw [Int.toNat_natCast, Nat.mul_one, addK_lit, Nat.zero_add, cell_blk hb1]; exact nmRow_at j hlt, ?_⟩
    refine mp_put (s := nmAt j) (v := .int .i8 (IntKind.wrap .i8 (j : Int))) map58 hm1 (nm_new j hlt) fun w2 m2 c2 z2 => ?_
    rw [← keyV_next j hlt] at m2
    refine ⟨((j + 1 : Nat) : Int), ⟨by rw [i64w _ (by omega) (by omega)]; rfl, trivial⟩, ⟨j + 1, rfl, by omega, m2, c2.blk hb1 (fun e => by have : w9.heap.size = w.heap.size := e; omega), hc1.trans2 c2 fun k hk e => by have : k = w.heap.size := e; omega⟩, by dsimp only; omega⟩
  · rw [if_neg (by simp; omega)]
    obtain rfl : j = 11 := by omega
    exact ⟨_, rfl, Nat.le_refl _, hm1, hc1⟩
end Go.Proofs.YtpolbdakhfcilaaGreatDoor.B

