/-
  parse: a field, a sign, a number.
-/
import Derived.Test.YtpolbdakhfcilaaGreatDoorPaC
set_option maxRecDepth 100000
set_option linter.unusedVariables false
set_option linter.unusedSimpArgs false
namespace Go.Proofs.YtpolbdakhfcilaaGreatDoor.B
open Go Go.Proofs Go.Proofs.YtpolbdakhfcilaaGreatDoorEng Go.RowKit

def valIn (l : List (List UInt8 × Value)) (txt : List UInt8) : Option Value := match l with
  | [] => none
  | x :: r => if x.1 = txt then some x.2 else valIn r txt
theorem valIn_key : ∀ (l : List (List UInt8 × Int)) (txt : List UInt8), valIn (l.map fun x => (x.1, .int .i8 x.2)) txt = (keyIn l txt).map fun f => Value.int .i8 f
  | [], txt => rfl
  | x :: r, txt => by
    simp only [List.map_cons, valIn, keyIn]
    by_cases h : x.1 = txt
    · rw [if_pos h, if_pos h]; rfl
    · rw [if_neg h, if_neg h]; exact valIn_key r txt
theorem mkE_look {s : List UInt8} : ∀ (l : List (List UInt8 × Value)) (i j : Nat), match valIn l s with
    | none => Instr.findNow .string (.string (bs s)) (mkE i l) j = some none
    | some v => ∃ k, Instr.findNow .string (.string (bs s)) (mkE i l) j = some (some (k, v))
  | [], i, j => rfl
  | x :: r, i, j => by
    have ih := mkE_look (s := s) r (i + 1) (j + 1)
    simp only [mkE, Instr.findNow, Instr.sameNow, valIn]
    by_cases he : x.1 = s
    · rw [if_pos he]
      have : (bs s == bs x.1) = true := by rw [ba_beq, he]; simp
      rw [this]
      exact ⟨j, rfl⟩
    · rw [if_neg he]
      have : (bs s == bs x.1) = false := by
        rw [ba_beq]
        exact decide_eq_false fun e => he (bs_inj e).symm
      rw [this]
      exact ih
theorem zero23 (w : World) : (zeroValue 22).run Tryz.prog w = .ok (.int .i8 0) w := by
  obtain ⟨i, hi, hz, _⟩ := info_open' (P := Tryz.prog) (t := 22) (z := .int .i8 0) (s := 1) (b := 1) (by kernel_rfl)
  simp [zeroValue, typeInfo, hi, hz]
theorem look_key {w : World} {m : Nat} (h : Mp w m keyV) (txt : List UInt8) : (Instr.lookup 63 (.map (some m)) (.string (bs txt)) true).run Tryz.prog w = .ok (.tuple #[.int .i8 ((keyOf txt).getD 0), .bool (keyOf txt).isSome]) w := by
  have h1 := mkE_look (s := txt) keyV 0 0
  have h2 : valIn keyV txt = (keyOf txt).map fun f => Value.int .i8 f := valIn_key keyL txt
  rw [h2] at h1
  cases hk : keyOf txt with
  | none =>
    rw [hk] at h1
    have h3 : Instr.findNow .string (.string (bs txt)) (mkE 0 keyV).toArray.toList 0 = some none := by rw [List.toList_toArray]; exact h1
    simp [Instr.lookup, run_underlying map58, MapKept.run_getObj_map h, check9, MapKept.run_findKey Tryz.underlying9 h3, zero23, Result.andThen]
  | some f =>
    rw [hk] at h1
    obtain ⟨k, h1⟩ := h1
    have h3 : Instr.findNow .string (.string (bs txt)) (mkE 0 keyV).toArray.toList 0 = some (some (k, .int .i8 f)) := by rw [List.toList_toArray]; exact h1
    simp [Instr.lookup, run_underlying map58, MapKept.run_getObj_map h, check9, MapKept.run_findKey Tryz.underlying9 h3, Result.andThen]
def RetP (w : World) (q : Rp) (ws : List Wd) (P : Pr → Prop) : Value → World → Prop := fun v w' => ∃ t j u, P (.ok t j) ∧ v = .agg (V4.arr u) ∧ u.own w' (fun k => w.heap.size ≤ k) t ∧ Rdr w' q ws j ∧ Chg (OnlyB q.b) w w'
def BadP (w : World) (q : Rp) (ws : List Wd) (P : Pr → Prop) : PanW := fun c w' => ∃ j, P (.bad j) ∧ Bad w q ws j c w'
theorem kept_chg {w w' : World} (h : Chg NoS w w') : Kept NoS w w' := ⟨h.size, fun b hb hs => h.block b hb hs⟩
theorem keyIn_lt : ∀ (l : List (List UInt8 × Int)) (txt : List UInt8) (f : Int), (∀ x ∈ l, -128 ≤ x.2 ∧ x.2 ≤ 127) → keyIn l txt = some f → -128 ≤ f ∧ f ≤ 127
  | [], txt, f, _, h => by cases h
  | x :: r, txt, f, hl, h => by
    simp only [keyIn] at h
    split at h
    · injection h with h; subst h; exact hl x (by simp)
    · exact keyIn_lt r txt f (fun y hy => hl y (by simp [hy])) h
theorem keyOf_lt {txt : List UInt8} {f : Int} (h : keyOf txt = some f) : -128 ≤ f ∧ f ≤ 127 := keyIn_lt keyL txt f (by decide) h
theorem Calls.thenP {f : FuncId} {args : Array Value} {w : World} {R0 R : Value → World → Prop} {E0 E : PanW} (h : Calls Tryz.prog f args w (endW R0 E0)) (hR : ∀ v w', R0 v w' → R v w') (hE : ∀ c w', E0 c w' → E c w') : Calls Tryz.prog f args w (endW R E) :=
  h.mono fun e w' he => by
    cases e with
    | returned v => exact hR v w' he
    | outgrown => exact he.elim
    | panicked c => exact hE c w' he
theorem putR {w w1 : World} {q : Rp} {g : Nat} {cs vs : List Value} {t : TypeId} {K : World → Prop} (hb : w1.heap[g]? = some (.cells cs.toArray t (0, 0))) (hc : Chg (OnlyB q.b) w w1) (hg : w.heap.size ≤ g) (hl : cs.length = vs.length) (hv : ∀ v ∈ vs, oneC v = true)
    (hK : ∀ w2, w2.heap[g]? = some (.cells vs.toArray t (0, 0)) → Chg (OnlyB q.b) w w2 → Chg (OnlyB g) w1 w2 → K w2) : setsW vs w1 ⟨g, 0, none⟩ 0 K :=
  sets_blk (vs := vs) hb (by simpa using hl) hv fun w2 b2 c2 z2 => hK w2 b2 (hc.trans2 c2 fun k hk e => by have : k = g := e; omega) c2
theorem own_leaf (w : World) (S : Nat → Prop) {op f n : Int} (h1 : 0 ≤ op ∧ op ≤ 127) (h2 : -128 ≤ f ∧ f ≤ 127) (h3 : 0 ≤ n ∧ n ≤ 18446744073709551615) : V4.own ⟨op, f, n, none, 0, 0⟩ w S (.mk op f n []) :=
  own_mk ⟨by omega, h1.2, h2.1, h2.2, h3.1, h3.2⟩ rfl (by omega) (by omega) .nil (fun j u hu => by simp [flat] at hu) (fun A e => by cases e)
/-- a block of the call's own is no block of the reader -/
theorem Rst.keep2 {w w1 w2 : World} {q : Rp} {ws : List Wd} {g : Nat} (h : Rst w1 q ws) (hc : Chg (OnlyB g) w1 w2) (h0 : Rst w q ws) (hg : w.heap.size ≤ g) : Rst w2 q ws := by
  have hm : q.m ≠ g := by have := lt_of_blk h0.keys; omega
  refine { row := fun k x hx => ?_, len := h.len, keys := hc.blk h.keys hm, ne := h.ne, small := h.small, more := h.more, num := h.num }
  obtain ⟨A, e, hne, g0, g1, g2, g3⟩ := h.row k x hx
  obtain ⟨A', e', _, k0, _⟩ := h0.row k x hx
  rw [e] at e'
  injection e' with e'
  subst e'
  have hlt : A.block < w.heap.size := by
    rcases Nat.lt_or_ge (addK (addK A (k * 4)) 0).block w.heap.size with h' | h'
    · rw [addK_block, addK_block] at h'; exact h'
    · simp [World.cell?, Array.getElem?_eq_none h'] at k0
  have hb : ∀ j, ¬ OnlyB g (addK (addK A (k * 4)) j).block := fun j => by
    rw [addK_block, addK_block]
    intro e
    have e' : A.block = g := e
    omega
  exact ⟨A, e, hne, cell_keepS (S := NoS) g0 hc (hb 0), cell_keepS (S := NoS) g1 hc (hb 1), cell_keepS (S := NoS) g2 hc (hb 2), cell_keepS (S := NoS) g3 hc (hb 3)⟩
theorem Rdr.keep2 {w w1 w2 : World} {q : Rp} {ws : List Wd} {g i j : Nat} (h : Rdr w1 q ws j) (hc : Chg (OnlyB g) w1 w2) (h0 : Rdr w q ws i) (hg : w.heap.size ≤ g) : Rdr w2 q ws j :=
  ⟨hc.blk h.blk fun e => by have := lt_of_blk h0.blk; have : q.b = g := e; omega, h.st.keep2 hc h0.st hg, h.lt⟩
theorem pair_ok {w : World} {q : Rp} {ws : List Wd} {i : Nat} (h : Rdr w q ws i) (op : Nat) (hop : op ≤ 127) (sg : List UInt8) :
    Calls Tryz.prog 100 #[.pointer (some ⟨q.b, 0, none⟩), .int .i8 (op : Int), .string (bs sg)] w (endW (RetP w q ws fun r => pairS ws op sg i = r) (BadP w q ws fun r => pairS ws op sg i = r)) := by
  obtain ⟨x, hx⟩ := h.word
  refine F100_calls _ _ _ ?_
  delta F100
  have c0 : Chg NoS w (w.alloc (.cells #[.int .i8 0, .int .i8 0, .int .u64 0, .slice none 0 0] 26)).drew := (chg_alloc w _ _).trans (chg_drew _ _)
  have b0 : (w.alloc (.cells #[.int .i8 0, .int .i8 0, .int .u64 0, .slice none 0 0] 26)).drew.heap[w.heap.size]? = some (.cells [.int .i8 0, .int .i8 0, .int .u64 0, .slice none 0 0].toArray 26 (0, 0)) := blk_alloc w _
  generalize (w.alloc (.cells #[.int .i8 0, .int .i8 0, .int .u64 0, .slice none 0 0] 26)).drew = w0 at c0 b0 ⊢
  have h0 := h.keep c0
  refine ⟨NoS, some_w ⟨fun x => x, _, by rw [addK_lit, cell_blk h0.blk]; rfl, ?_⟩⟩
  refine Calls.then (next_ok h0 hx) ?_
  rintro v w1 ⟨rfl, c1⟩
  refine aggW ⟨kept_chg c1, ?_⟩
  have h1 := h0.keep c1
  have c01 := c0.trans c1
  have b1 := c1.blk b0 (fun x => x)
  have small := h.st.small
  unfold runV
  rw [look_key h1.st.keys]
  refine ⟨_, rfl, _, _, rfl, _, rfl, _, _, rfl, _, rfl, rfl, fun _ w2 => Rdr w2 q ws i ∧ Chg NoS w w2 ∧ w2.heap[w.heap.size]? = some (.cells [.int .i8 0, .int .i8 0, .int .u64 0, .slice none 0 0].toArray 26 (0, 0)) ∧ x.kind = 1 ∧ ∃ f, keyOf x.txt = some f ∧ 0 ≤ f, ?_, ?_⟩
  · rintro _ w2 ⟨h2, c2, b2, hk1, f, hkf, hf0⟩ _
    have hlt := h.st.more i x hx (by omega)
    have hps : pairS ws op sg i = if isW ws (i + 1) 3 sg = true then (match ws[i + 2]? with
        | some y => if y.kind = 2 then .ok (.mk op f y.num []) (i + 3) else .bad (i + 2)
        | none => .bad (i + 2)) else .bad (i + 1) := by
      unfold pairS
      rw [hx]
      dsimp only
      rw [hkf]
      dsimp only
      rw [if_pos ⟨hk1, hf0⟩]
      rfl
    refine some_w ⟨_, by rw [addK_lit, cell_blk h2.blk]; rfl, some_w ?_⟩
    refine set_i (j := i + 1) h2 hlt (by rw [i64w _ (by omega) (by omega)]; rfl) fun w3 h3 c3 _ => ?_
    have cB3 : Chg (OnlyB q.b) w w3 := (toB c2 _).trans c3
    have hbl : w.heap.size ≠ q.b := fun e => by have := lt_of_blk h.blk; omega
    have b3 := c3.blk b2 hbl
    refine Calls.thenP (must_ok h3 3 sg (by omega)) ?_ fun c w' hb => ⟨i + 1, by rw [hps, hb.1]; rfl, hb.2.from cB3⟩
    rintro v w4 ⟨hw, h4, c4⟩
    rw [if_pos hw] at hps
    have cB4 := cB3.trans c4
    have b4 := c4.blk b3 hbl
    obtain ⟨y, hy⟩ := h4.word
    rw [hy] at hps
    dsimp only at hps
    refine Calls.then (next_ok h4 hy) ?_
    rintro v w5 ⟨rfl, c5⟩
    have h5 := h4.keep c5
    have cB5 := cB4.trans (toB c5 _)
    have b5 := c5.blk b4 (fun x => x)
    refine aggW ?_
    by_cases hk2 : y.kind = 2
    · rw [if_neg (by simp [hk2])]
      rw [if_pos hk2] at hps
      refine Calls.then (next_ok h5 hy) ?_
      rintro v w6 ⟨rfl, c6⟩
      have h6 := h5.keep c6
      have cB6 := cB5.trans (toB c6 _)
      have b6 := c6.blk b5 (fun x => x)
      have hlt3 := h.st.more (i + 1 + 1) y hy (by omega)
      refine aggW (some_w ⟨_, by rw [addK_lit, cell_blk h6.blk]; rfl, some_w ?_⟩)
      refine set_i (j := i + 3) h6 hlt3 (by rw [i64w _ (by omega) (by omega)]; rfl) fun w7 h7 c7 _ => ?_
      have cB7 := cB6.trans c7
      have b7 := c7.blk b6 hbl
      have hf := keyOf_lt hkf
      rw [hkf, Option.getD_some]
      refine (putR (vs := [.int .i8 (op : Int), .int .i8 f, .int .u64 (y.num : Int), .slice none 0 0]) b7 cB7 (Nat.le_refl _) rfl (by simp [oneC]) fun w8 b8 cB8 c8 => ?_ : setsW _ _ _ _ _)
      refine ⟨_, get_blk b8 0 _ rfl, _, get_blk b8 1 _ rfl, _, get_blk b8 2 _ rfl, _, _, _, get_blk b8 3 _ rfl, _, i + 3, ⟨op, f, y.num, none, 0, 0⟩, hps, rfl, own_leaf _ _ (by omega) (by omega) ?_, ?_, cB8⟩
      · have := h.st.num (i + 2) y hy
        omega
      · exact h7.keep2 c8 h (Nat.le_refl _)
    · rw [if_pos (by simp; omega)]
      rw [if_neg hk2] at hps
      exact Calls.bad (bad_ok h5) cB5 fun c w' hb => ⟨i + 2, hps, hb⟩
  · refine Calls.then (next_ok h1 hx) ?_
    rintro v w2 ⟨rfl, c2⟩
    have h2 := h1.keep c2
    have c02 := c01.trans c2
    refine aggW ?_
    have giveup : ∀ hh : (∀ f, keyOf x.txt = some f → ¬ (x.kind = 1 ∧ 0 ≤ f)), pairS ws op sg i = .bad i := fun hh => by
      unfold pairS
      rw [hx]
      dsimp only
      cases hkf : keyOf x.txt with
      | none => rfl
      | some f => dsimp only; rw [if_neg (hh f hkf)]
    by_cases hk1 : x.kind = 1
    · rw [if_pos (by simp [hk1])]
      cases hkf : keyOf x.txt with
      | none =>
        rw [if_neg (by simp)]
        exact Calls.bad (bad_ok h2) (toB c02 _) fun c w' hb => ⟨i, giveup (by rw [hkf]; intro f hf; cases hf), hb⟩
      | some f =>
        rw [if_pos (by simp)]
        by_cases hf0 : f < 0
        · rw [if_pos (by simpa using hf0)]
          exact Calls.bad (bad_ok h2) (toB c02 _) fun c w' hb => ⟨i, giveup (by rw [hkf]; intro f' hf'; injection hf' with e; subst e; omega), hb⟩
        · rw [if_neg (by simpa using hf0)]
          exact ⟨(), trivial, h2, c02, c2.blk b1 (fun x => x), hk1, f, rfl, by omega⟩
    · rw [if_neg (by simp; omega)]
      exact Calls.bad (bad_ok h2) (toB c02 _) fun c w' hb => ⟨i, giveup (fun f _ hh => hk1 hh.1), hb⟩
end Go.Proofs.YtpolbdakhfcilaaGreatDoor.B
