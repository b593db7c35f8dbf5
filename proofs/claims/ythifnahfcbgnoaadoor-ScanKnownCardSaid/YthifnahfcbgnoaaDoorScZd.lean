/-
  scan: some texts, told by hand.
-/
import Derived.Test.YthifnahfcbgnoaaDoorScN
import Derived.Test.YthifnahfcbgnoaaDoorScO
import Derived.Test.YthifnahfcbgnoaaDoorScP
import Derived.Test.YthifnahfcbgnoaaDoorBG
import Derived.Test.YthifnahfcbgnoaaDoorEngS
set_option maxRecDepth 100000
set_option linter.unusedVariables false
set_option linter.unusedSimpArgs false
namespace Go.Proofs.YthifnahfcbgnoaaDoor.B
open Go Go.Proofs Go.Proofs.YthifnahfcbgnoaaDoorEng Go.RowKit

def mkE : Nat → List (List UInt8 × Value) → List MapEntry
  | _, [] => []
  | i, x :: r => { key := .string (bs x.1), val := x.2, born := i } :: mkE (i + 1) r
theorem mkE_snoc (x : List UInt8 × Value) : ∀ (l : List (List UInt8 × Value)) (i : Nat), mkE i (l ++ [x]) = mkE i l ++ [{ key := .string (bs x.1), val := x.2, born := i + l.length }]
  | [], i => by simp [mkE]
  | y :: r, i => by
    show _ :: mkE (i + 1) (r ++ [x]) = _
    rw [mkE_snoc x r (i + 1)]
    simp [mkE, Nat.add_assoc, Nat.add_comm 1]
theorem ba_beq (s t : ByteArray) : (s == t) = decide (s = t) := by
  obtain ⟨a⟩ := s
  obtain ⟨b⟩ := t
  have h : ((⟨a⟩ : ByteArray) == ⟨b⟩) = (a == b) := rfl
  rw [h]
  by_cases e : a = b
  · subst e; simp
  · simp [e]
theorem mkE_find {s : List UInt8} : ∀ (l : List (List UInt8 × Value)) (i j : Nat), s ∉ l.map Prod.fst → Instr.findNow .string (.string (bs s)) (mkE i l) j = some none
  | [], i, j, _ => rfl
  | x :: r, i, j, h => by
    have hne : ¬ bs s = bs x.1 := fun e => h (by rw [bs_inj e]; exact List.mem_cons_self)
    simp only [mkE, Instr.findNow, Instr.sameNow]
    have : (bs s == bs x.1) = false := by
      rw [ba_beq]
      exact decide_eq_false hne
    rw [this]
    exact mkE_find r (i + 1) (j + 1) (fun e => h (List.mem_cons_of_mem _ e))
theorem mkE_mem {e : MapEntry} : ∀ (l : List (List UInt8 × Value)) (i : Nat), e ∈ mkE i l → ∃ x ∈ l, e.key = .string (bs x.1) ∧ e.val = x.2
  | [], i, h => by cases h
  | x :: r, i, h => by
    rcases List.mem_cons.1 h with rfl | h
    · exact ⟨x, by simp, rfl, rfl⟩
    · obtain ⟨y, h1, h2⟩ := mkE_mem r (i + 1) h
      exact ⟨y, by simp [h1], h2⟩
theorem mkE_born {e : MapEntry} : ∀ (l : List (List UInt8 × Value)) (i : Nat), e ∈ mkE i l → i ≤ e.born ∧ e.born < i + l.length
  | [], i, h => by cases h
  | x :: r, i, h => by
    rcases List.mem_cons.1 h with rfl | h
    · simp
    · have := mkE_born r (i + 1) h
      simp only [List.length_cons]
      omega
theorem mkE_nodup : ∀ (l : List (List UInt8 × Value)) (i : Nat), ((mkE i l).map (·.born)).Nodup
  | [], i => by simp [mkE]
  | x :: r, i => by
    simp only [mkE, List.map_cons, List.nodup_cons]
    refine ⟨fun h => ?_, mkE_nodup r (i + 1)⟩
    obtain ⟨e, he, hb⟩ := List.mem_map.1 h
    have := mkE_born r (i + 1) he
    omega
/-- a map of texts -/
def Mp (w : World) (r : Nat) (l : List (List UInt8 × Value)) : Prop := w.heap[r]? = some (.map (mkE 0 l).toArray l.length)
theorem map40 : Tryd.prog.underlying 40 = some (.map 9 37) := by kernel_rfl
theorem map41 : Tryd.prog.underlying 41 = some (.map 9 29) := by kernel_rfl
theorem check9 (w : World) (e : Bool) (s : ByteArray) : (Instr.checkKey e 10000 9 (.string s)).run Tryd.prog w = .ok () w := MapKept.run_checkKey (k := .string s) Tryd.underlying9 (by simp [MapKept.IsKey]) e 9999
theorem mp_put {w : World} {r t vt : Nat} {l : List (List UInt8 × Value)} {s : List UInt8} {v : Value} {K : World → Prop} {E : PanW} (ht : Tryd.prog.underlying t = some (.map 9 vt)) (h : Mp w r l) (hs : s ∉ l.map Prod.fst)
    (hK : ∀ w', Mp w' r (l ++ [(s, v)]) → Chg (OnlyB r) w w' → w'.heap.size = w.heap.size → K w') : runU Tryd.prog (Instr.mapUpdate t (.map (some r)) (.string (bs s)) v) w K E := by
  have hlt := lt_of_blk h
  have hfind : Instr.findNow .string (.string (bs s)) (mkE 0 l).toArray.toList 0 = some none := by rw [List.toList_toArray]; exact mkE_find l 0 0 hs
  have hrun : (Instr.mapUpdate t (.map (some r)) (.string (bs s)) v).run Tryd.prog w = .ok () { w with heap := w.heap.setIfInBounds r (.map ((mkE 0 l).toArray.push { key := .string (bs s), val := v, born := l.length }) (l.length + 1)) } := by
    simp [Instr.mapUpdate, run_underlying ht, MapKept.run_getObj_map h, check9, MapKept.run_findKey Tryd.underlying9 hfind, MapKept.run_setObj_map _ h, Result.andThen]
  unfold runU
  rw [hrun]
  refine hK _ ?_ ⟨rfl, rfl, rfl, by simp, fun k hk hne => Array.getElem?_setIfInBounds_ne (fun e => hne e.symm)⟩ (by simp)
  unfold Mp
  rw [mkE_snoc]
  show (w.heap.setIfInBounds r _)[r]? = _
  rw [Array.getElem?_setIfInBounds_self_of_lt hlt]
  simp
theorem mp_new {w : World} {t : Nat} {K : Value → World → Prop} {E : PanW} (hK : ∀ w', Mp w' w.heap.size [] → Chg NoS w w' → w'.heap.size = w.heap.size + 1 → K (.map (some w.heap.size)) w') : runV Tryd.prog (Instr.makeMap t none) w K E := by
  unfold runV
  rw [show (Instr.makeMap t none).run Tryd.prog w = .ok (.map (some w.heap.size)) (w.alloc (.map #[] 0)) from rfl]
  exact hK _ (blk_alloc w _) (chg_alloc w _ _) (size_alloc w _)
theorem test_old {seen : Array Nat} {l : List (List UInt8 × Value)} {last : Nat} (h : l.length ≤ last) : (!seen.isEmpty && !(mkE 0 l).toArray.isEmpty && (mkE 0 l).toArray.all (fun x => decide (x.born ≥ last))) = false := by
  cases l with
  | nil => simp [mkE]
  | cons x r =>
    have : ¬ last ≤ 0 := by simp at h; omega
    simp [mkE, this]
theorem left_less {L : List MapEntry} {seen : Array Nat} {e : MapEntry} (he : e ∈ L) (hs : seen.contains e.born = false) : (L.filter fun x => !(seen.push e.born).contains x.born).length < (L.filter fun x => !seen.contains x.born).length := by
  refine filter_lt (fun x => !seen.contains x.born) (fun x => !(seen.push e.born).contains x.born) (fun x hx => ?_) e (by simpa using hs) (by simp) L he
  have h : (seen.push e.born).contains x.born = false := by simpa using hx
  rw [Array.contains_push, Bool.or_eq_false_iff] at h
  simpa using h.1
def good1 (x : List UInt8 × Value) : Prop := ∃ n : Nat, x.2 = .int .u64 (n : Int) ∧ allR x.1 = .inl [⟨2, x.1, n, 0⟩, ⟨0, [], 0, x.1.length⟩]
def bad1 (x : List UInt8 × Value) : Prop := ∃ (code : Nat) (txt : List UInt8), code ≠ 0 ∧ x.2 = .agg #[.int .i64 (code : Int), .int .i64 0, .string (bs txt)] ∧ allR x.1 = .inr (code, 0, txt)
def t1_0 : List UInt8 × Value := ([48], .int .u64 0)
theorem g1_0 : good1 t1_0 := ⟨0, rfl, by kernel_rfl⟩
def t1_1 : List UInt8 × Value := ([49, 56, 52, 52, 54, 55, 52, 52, 48, 55, 51, 55, 48, 57, 53, 53, 49, 54, 49, 53], .int .u64 18446744073709551615)
theorem g1_1 : good1 t1_1 := ⟨18446744073709551615, rfl, by kernel_rfl⟩
def t1_2 : List UInt8 × Value := ([48, 120, 49, 70], .int .u64 31)
theorem g1_2 : good1 t1_2 := ⟨31, rfl, by kernel_rfl⟩
def t1_3 : List UInt8 × Value := ([50, 53, 53, 46, 50, 53, 53, 46, 50, 53, 53, 46, 50, 53, 53], .int .u64 4294967295)
theorem g1_3 : good1 t1_3 := ⟨4294967295, rfl, by kernel_rfl⟩
def t1_4 : List UInt8 × Value := ([48, 48, 58, 48, 48, 58, 48, 48, 58, 48, 48, 58, 48, 48, 58, 48, 97], .int .u64 10)
theorem g1_4 : good1 t1_4 := ⟨10, rfl, by kernel_rfl⟩
def t1_5 : List UInt8 × Value := ([97, 98, 58, 99, 100, 58, 101, 102, 58, 48, 49, 58, 50, 51, 58, 52, 53], .int .u64 188900966474565)
theorem g1_5 : good1 t1_5 := ⟨188900966474565, rfl, by kernel_rfl⟩
def t2_0 : List UInt8 × Value := ([48, 49], .agg #[.int .i64 150, .int .i64 0, .string (bs [48, 49])])
theorem g2_0 : bad1 t2_0 := ⟨150, [48, 49], by decide, rfl, by kernel_rfl⟩
def t2_1 : List UInt8 × Value := ([49, 46, 50, 46, 51], .agg #[.int .i64 150, .int .i64 0, .string (bs [49, 46, 50, 46, 51])])
theorem g2_1 : bad1 t2_1 := ⟨150, [49, 46, 50, 46, 51], by decide, rfl, by kernel_rfl⟩
def t2_2 : List UInt8 × Value := ([48, 120, 103], .agg #[.int .i64 150, .int .i64 0, .string (bs [48, 120])])
theorem g2_2 : bad1 t2_2 := ⟨150, [48, 120], by decide, rfl, by kernel_rfl⟩
def t2_3 : List UInt8 × Value := ([49, 56, 52, 52, 54, 55, 52, 52, 48, 55, 51, 55, 48, 57, 53, 53, 49, 54, 49, 54], .agg #[.int .i64 3, .int .i64 0, .string (bs [49, 56, 52, 52, 54, 55, 52, 52, 48, 55, 51, 55, 48, 57, 53, 53, 49, 54, 49, 54])])
theorem g2_3 : bad1 t2_3 := ⟨3, [49, 56, 52, 52, 54, 55, 52, 52, 48, 55, 51, 55, 48, 57, 53, 53, 49, 54, 49, 54], by decide, rfl, by kernel_rfl⟩
def t2_4 : List UInt8 × Value := ([55, 97], .agg #[.int .i64 150, .int .i64 0, .string (bs [55])])
theorem g2_4 : bad1 t2_4 := ⟨150, [55], by decide, rfl, by kernel_rfl⟩
def t2_5 : List UInt8 × Value := ([64], .agg #[.int .i64 150, .int .i64 0, .string (bs [64])])
theorem g2_5 : bad1 t2_5 := ⟨150, [64], by decide, rfl, by kernel_rfl⟩
def l1 : List (List UInt8 × Value) := [t1_0, t1_1, t1_2, t1_3, t1_4, t1_5]
def l2 : List (List UInt8 × Value) := [t2_0, t2_1, t2_2, t2_3, t2_4, t2_5]
theorem all1 : ∀ x ∈ l1, good1 x := by
  unfold l1
  intro x hx
  simp only [List.mem_cons, List.not_mem_nil, or_false] at hx
  rcases hx with rfl | rfl | rfl | rfl | rfl | rfl
  · exact g1_0
  · exact g1_1
  · exact g1_2
  · exact g1_3
  · exact g1_4
  · exact g1_5
theorem all2 : ∀ x ∈ l2, bad1 x := by
  unfold l2
  intro x hx
  simp only [List.mem_cons, List.not_mem_nil, or_false] at hx
  rcases hx with rfl | rfl | rfl | rfl | rfl | rfl
  · exact g2_0
  · exact g2_1
  · exact g2_2
  · exact g2_3
  · exact g2_4
  · exact g2_5
theorem cell_out {w : World} {b i : Nat} {cs : Array Value} {t : TypeId} {v : Value} (h : w.heap[b]? = some (.cells cs t (0, 0))) (hv : cs[i]? = some v) : w.cell? (addK ⟨b, 0, none⟩ i) = some v := by
  rw [addK_lit, Nat.zero_add, cell_blk h]; exact hv
theorem known_ok (w : World) (hL : Libs w) : Calls Tryd.prog 6 #[] w (endW (fun v w' => v = .bool true ∧ Chg NoS w w') (fun _ _ => False)) := by
  refine F6_calls ?_
  delta F6
  refine mp_new fun w1 m0 c1 z1 => ?_
  refine ⟨_, rfl, ?_⟩
  refine mp_put (s := t1_0.1) (v := t1_0.2) map40 m0 (by decide) fun wa2 m1 k1 e1 => ?_
  refine mp_put (s := t1_1.1) (v := t1_1.2) map40 m1 (by decide) fun wa3 m2 k2 e2 => ?_
  refine mp_put (s := t1_2.1) (v := t1_2.2) map40 m2 (by decide) fun wa4 m3 k3 e3 => ?_
  refine mp_put (s := t1_3.1) (v := t1_3.2) map40 m3 (by decide) fun wa5 m4 k4 e4 => ?_
  refine mp_put (s := t1_4.1) (v := t1_4.2) map40 m4 (by decide) fun wa6 m5 k5 e5 => ?_
  refine mp_put (s := t1_5.1) (v := t1_5.2) map40 m5 (by decide) fun wa7 m6 k6 e6 => ?_
  have hm : Mp wa7 w.heap.size l1 := m6
  have hc : Chg NoS w wa7 := by
    have h : Chg (OnlyB w.heap.size) w1 wa7 := ((((k1.trans k2).trans k3).trans k4).trans k5).trans k6
    exact c1.trans2 h fun k hk e => by have : k = w.heap.size := e; omega
  have hz : wa7.heap.size = w.heap.size + 1 := by rw [e6, e5, e4, e3, e2, e1, z1]
  clear m0 m1 m2 m3 m4 m5 m6 k1 k2 k3 k4 k5 k6 e1 e2 e3 e4 e5 e6 c1 z1
  refine range_map map40 hm fun w2 hit2 c2 z2 => ?_
  have hm2 : Mp w2 w.heap.size l1 := c2.blk hm (fun x => x)
  refine ⟨fun _ w3 => ∃ seen, w3.heap[wa7.heap.size]? = some (.mapIter (some w.heap.size) l1.length seen l1.length) ∧ Mp w3 w.heap.size l1 ∧ Chg NoS w w3, fun _ w3 => ((mkE 0 l1).filter fun e => !(w3.iterSeen wa7.heap.size).contains e.born).length, ⟨(), trivial, #[], hit2, hm2, hc.trans c2⟩, ?_⟩
  rintro _ w3 ⟨seen, hit, hm3, hc3⟩ _
  refine next_map hit hm3 (test_old (Nat.le_refl _)) (fun _ w4 heq c4 => ?_) fun e he hse w4 hit4 c4 z4 => ?_
  · -- the first map is done
    refine .inl ⟨rfl, ?_⟩
    have hc4 := hc3.trans c4
    clear hit hm3 hm2 hit2 hm c2 c4 z2 hc hc3 heq
    refine mp_new fun w5 m0 c5 z5 => ?_
    refine ⟨_, rfl, ?_⟩
    refine mp_put (s := t2_0.1) (v := t2_0.2) map41 m0 (by decide) fun wb2 m1 k1 e1 => ?_
    refine mp_put (s := t2_1.1) (v := t2_1.2) map41 m1 (by decide) fun wb3 m2 k2 e2 => ?_
    refine mp_put (s := t2_2.1) (v := t2_2.2) map41 m2 (by decide) fun wb4 m3 k3 e3 => ?_
    refine mp_put (s := t2_3.1) (v := t2_3.2) map41 m3 (by decide) fun wb5 m4 k4 e4 => ?_
    refine mp_put (s := t2_4.1) (v := t2_4.2) map41 m4 (by decide) fun wb6 m5 k5 e5 => ?_
    refine mp_put (s := t2_5.1) (v := t2_5.2) map41 m5 (by decide) fun wb7 m6 k6 e6 => ?_
    have hm : Mp wb7 w4.heap.size l2 := m6
    have hc : Chg NoS w wb7 := by
      have h : Chg (OnlyB w4.heap.size) w5 wb7 := ((((k1.trans k2).trans k3).trans k4).trans k5).trans k6
      exact hc4.trans (c5.trans2 h fun k hk e => by have : k = w4.heap.size := e; omega)
    have hz : wb7.heap.size = w4.heap.size + 1 := by rw [e6, e5, e4, e3, e2, e1, z5]
    clear m0 m1 m2 m3 m4 m5 m6 k1 k2 k3 k4 k5 k6 e1 e2 e3 e4 e5 e6 c5 z5
    refine range_map map41 hm fun w2 hit2 c2 z2 => ?_
    have hm2 : Mp w2 w4.heap.size l2 := c2.blk hm (fun x => x)
    refine ⟨fun _ w3 => ∃ seen, w3.heap[wb7.heap.size]? = some (.mapIter (some w4.heap.size) l2.length seen l2.length) ∧ Mp w3 w4.heap.size l2 ∧ Chg NoS w w3, fun _ w3 => ((mkE 0 l2).filter fun e => !(w3.iterSeen wb7.heap.size).contains e.born).length, ⟨(), trivial, #[], hit2, hm2, hc.trans c2⟩, ?_⟩
    rintro _ w3 ⟨seen, hit, hm3, hc3⟩ _
    refine next_map hit hm3 (test_old (Nat.le_refl _)) (fun _ w6 heq c6 => ?_) fun e he hse w6 hit6 c6 z6 => ?_
    · refine .inl ⟨rfl, ?_⟩
      exact wake_end (hL.chg (hc3.trans c6)) (hc3.trans c6)
    · refine .inr ⟨_, _, rfl, ?_⟩
      have hlt := lt_of_blk hit
      have hm6 : Mp w6 w4.heap.size l2 := c6.blk hm3 (by show ¬ w4.heap.size = wb7.heap.size; omega)
      have s6 := hc.size
      have hc6 : Chg NoS w w6 := hc3.trans2 c6 fun k hk e => by have : k = wb7.heap.size := e; omega
      refine entry_map hit6 hm6 he (mkE_nodup l2 0) ?_
      have he' := he
      rw [List.toList_toArray] at he'
      obtain ⟨x, hx, ek, ev⟩ := mkE_mem l2 0 he'
      obtain ⟨code, txt, h0, ex, hal⟩ := all2 x hx
      rw [ek, ev, ex]
      refine ⟨_, rfl, _, _, rfl, _, rfl, _, _, rfl, _, rfl, _, _, rfl, _, rfl, _, _, rfl, _, rfl, _, _, rfl, _, rfl, rfl, rfl, ?_⟩
      refine (sets_blk (b := w6.heap.size) (t := 29) (cs := #[.int .i64 0, .int .i64 0, .string ⟨#[]⟩]) (vs := [.int .i64 (code : Int), .int .i64 0, .string (bs txt)]) (blk_alloc w6 _) rfl (by simp [oneC]) fun w7 b7 c7 z7 => ?_ : setsW _ _ _ _ _)
      have hc67 : Chg NoS w6 w7 := (chg_alloc w6 _ _).trans2 c7 fun k hk e => by
        have : k = w6.heap.size := e
        omega
      have hc7 := hc6.trans hc67
      refine Calls.then (All_ok w7 x.1 (hL.chg hc7).1) ?_
      rw [hal]
      rintro v w8 ⟨c8, b, rfl, hb, hcell⟩
      have b8 := c8.blk b7 (fun x => x)
      refine ⟨_, rfl, _, _, rfl, _, _, _, rfl, _, _, rfl, rfl, _, cell_out b8 rfl, _, cell_out b8 rfl, _, cell_out b8 rfl, ?_⟩
      have hc8 := hc7.trans c8
      refine Calls.then (told_same b code 0 txt w8 hcell h0 (hL.chg hc8)) ?_
      rintro v w9 ⟨rfl, c9⟩
      refine ⟨_, rfl, ?_⟩
      rw [if_neg (by simp)]
      have c69 : Chg NoS w6 w9 := (hc67.trans c8).trans c9
      refine ⟨(), trivial, ⟨seen.push e.born, c69.blk hit6 (fun x => x), c69.blk hm6 (fun x => x), hc8.trans c9⟩, ?_⟩
      have i9 : w9.iterSeen wb7.heap.size = seen.push e.born := by unfold World.iterSeen; rw [c69.blk hit6 (fun x => x)]
      have i3 : w3.iterSeen wb7.heap.size = seen := by unfold World.iterSeen; rw [hit]
      dsimp only
      rw [i9, i3]
      exact left_less he' hse
  · refine .inr ⟨_, _, rfl, ?_⟩
    have hlt := lt_of_blk hit
    have hm4 : Mp w4 w.heap.size l1 := c4.blk hm3 (by show ¬ w.heap.size = wa7.heap.size; omega)
    have hc4 : Chg NoS w w4 := hc3.trans2 c4 fun k hk e => by have : k = wa7.heap.size := e; omega
    refine entry_map hit4 hm4 he (mkE_nodup l1 0) ?_
    have he' := he
    rw [List.toList_toArray] at he'
    obtain ⟨x, hx, ek, ev⟩ := mkE_mem l1 0 he'
    obtain ⟨n, ex, hal⟩ := all1 x hx
    rw [ek, ev, ex]
    refine ⟨_, rfl, _, _, rfl, _, rfl, _, _, rfl, _, rfl, rfl, ?_⟩
    refine Calls.then (All_ok w4 x.1 (hL.chg hc4).1) ?_
    rw [hal]
    rintro v w8 ⟨c8, a, m, c, rfl, ho, hn⟩
    have hn2 : m = 2 := hn
    subst hn2
    obtain ⟨A, rfl, g0⟩ := own_cell ho (j := 0) rfl
    obtain ⟨A', eA, g2⟩ := own_cell ho (j := 2) rfl
    cases eA
    refine ⟨_, rfl, _, _, rfl, _, _, _, rfl, _, _, rfl, rfl, .inl rfl, ?_⟩
    rw [if_pos (by rfl), if_pos (by rfl)]
    refine ⟨by omega, by omega, some_i ⟨_, by rw [addK_addK]; exact g0, ?_⟩⟩
    rw [if_pos (by rfl)]
    refine ⟨by omega, by omega, some_i ⟨_, by rw [addK_addK]; exact g2, ?_⟩⟩
    rw [if_neg (by simp)]
    refine ⟨(), trivial, ⟨seen.push e.born, c8.blk hit4 (fun x => x), c8.blk hm4 (fun x => x), hc4.trans c8⟩, ?_⟩
    have i9 : w8.iterSeen wa7.heap.size = seen.push e.born := by unfold World.iterSeen; rw [c8.blk hit4 (fun x => x)]
    have i3 : w3.iterSeen wa7.heap.size = seen := by unfold World.iterSeen; rw [hit]
    dsimp only
    rw [i9, i3]
    exact left_less he' hse
theorem ScanKnown_walk (w : World) (hL : Libs w) : Calls Tryd.prog 6 #[] w (endW (fun v w' => v = .bool true ∧ Chg NoS w w') (fun _ _ => False)) := known_ok w hL
end Go.Proofs.YthifnahfcbgnoaaDoor.B
