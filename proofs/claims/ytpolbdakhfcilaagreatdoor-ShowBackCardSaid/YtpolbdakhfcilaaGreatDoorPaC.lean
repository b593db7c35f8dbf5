/-
  parse: the reader in memory; next, take, bad, must, of.
-/
import Derived.Test.YtpolbdakhfcilaaGreatDoorPaB
import Derived.Test.YtpolbdakhfcilaaGreatDoorBE
import Derived.MapKept
set_option maxRecDepth 100000
set_option linter.unusedVariables false
set_option linter.unusedSimpArgs false
namespace Go.Proofs.YtpolbdakhfcilaaGreatDoor.B
open Go Go.Proofs Go.Proofs.YtpolbdakhfcilaaGreatDoorEng Go.RowKit

def mkE : Nat → List (List UInt8 × Value) → List MapEntry
  | _, [] => []
  | i, x :: r => { key := .string (bs x.1), val := x.2, born := i } :: mkE (i + 1) r
theorem mkE_snoc (x : List UInt8 × Value) : ∀ (l : List (List UInt8 × Value)) (i : Nat), mkE i (l ++ [x]) = mkE i l ++ [{ key := .string (bs x.1), val := x.2, born := i + l.length }]
  | [], i => by simp [mkE]
  | y :: r, i => by
    show _ :: mkE (i + 1) (r ++ [x]) = _
    rw [mkE_snoc x r (i + 1)]
    simp [mkE, Nat.add_assoc, Nat.add_comm 1]
theorem mkE_find {s : List UInt8} : ∀ (l : List (List UInt8 × Value)) (i j : Nat), s ∉ l.map Prod.fst → Instr.findNow .string (.string (bs s)) (mkE i l) j = some none
  | [], i, j, _ => rfl
  | x :: r, i, j, h => by
    have hne : ¬ bs s = bs x.1 := fun e => h (by rw [bs_inj e]; exact List.mem_cons_self)
    simp only [mkE, Instr.findNow, Instr.sameNow]
    have : (bs s == bs x.1) = false := by
      rw [ba_beq]
      exact decide_eq_false hne
    rw [this]
    exact mkE_find r (i + 1) (j + 1) (fun e => h (List.mem_cons_of_mem _ e))
theorem mkE_mem {e : MapEntry} : ∀ (l : List (List UInt8 × Value)) (i : Nat), e ∈ mkE i l → ∃ x ∈ l, e.key = .string (bs x.1) ∧ e.val = x.2
  | [], i, h => by cases h
  | x :: r, i, h => by
    rcases List.mem_cons.1 h with rfl | h
    · exact ⟨x, by simp, rfl, rfl⟩
    · obtain ⟨y, h1, h2⟩ := mkE_mem r (i + 1) h
      exact ⟨y, by simp [h1], h2⟩
theorem mkE_born {e : MapEntry} : ∀ (l : List (List UInt8 × Value)) (i : Nat), e ∈ mkE i l → i ≤ e.born ∧ e.born < i + l.length
  | [], i, h => by cases h
  | x :: r, i, h => by
    rcases List.mem_cons.1 h with rfl | h
    · simp
    · have := mkE_born r (i + 1) h
      simp only [List.length_cons]
      omega
theorem mkE_nodup : ∀ (l : List (List UInt8 × Value)) (i : Nat), ((mkE i l).map (·.born)).Nodup
  | [], i => by simp [mkE]
  | x :: r, i => by
    simp only [mkE, List.map_cons, List.nodup_cons]
    refine ⟨fun h => ?_, mkE_nodup r (i + 1)⟩
    obtain ⟨e, he, hb⟩ := List.mem_map.1 h
    have := mkE_born r (i + 1) he
    omega
/-- a map of texts -/
def Mp (w : World) (r : Nat) (l : List (List UInt8 × Value)) : Prop := w.heap[r]? = some (.map (mkE 0 l).toArray l.length)
theorem map58 : Tryz.prog.underlying 63 = some (.map 9 22) := by kernel_rfl
theorem check9 (w : World) (e : Bool) (s : ByteArray) : (Instr.checkKey e 10000 9 (.string s)).run Tryz.prog w = .ok () w := MapKept.run_checkKey (k := .string s) Tryz.underlying9 (by simp [MapKept.IsKey]) e 9999
theorem mp_put {w : World} {r t vt : Nat} {l : List (List UInt8 × Value)} {s : List UInt8} {v : Value} {K : World → Prop} {E : PanW} (ht : Tryz.prog.underlying t = some (.map 9 vt)) (h : Mp w r l) (hs : s ∉ l.map Prod.fst)
    (hK : ∀ w', Mp w' r (l ++ [(s, v)]) → Chg (OnlyB r) w w' → w'.heap.size = w.heap.size → K w') : runU Tryz.prog (Instr.mapUpdate t (.map (some r)) (.string (bs s)) v) w K E := by
  have hlt := lt_of_blk h
  have hfind : Instr.findNow .string (.string (bs s)) (mkE 0 l).toArray.toList 0 = some none := by rw [List.toList_toArray]; exact mkE_find l 0 0 hs
  have hrun : (Instr.mapUpdate t (.map (some r)) (.string (bs s)) v).run Tryz.prog w = .ok () { w with heap := w.heap.setIfInBounds r (.map ((mkE 0 l).toArray.push { key := .string (bs s), val := v, born := l.length }) (l.length + 1)) } := by
    simp [Instr.mapUpdate, run_underlying ht, MapKept.run_getObj_map h, check9, MapKept.run_findKey Tryz.underlying9 hfind, MapKept.run_setObj_map _ h, Result.andThen]
  unfold runU
  rw [hrun]
  refine hK _ ?_ ⟨rfl, rfl, rfl, by simp, fun k hk hne => Array.getElem?_setIfInBounds_ne (fun e => hne e.symm)⟩ (by simp)
  unfold Mp
  rw [mkE_snoc]
  show (w.heap.setIfInBounds r _)[r]? = _
  rw [Array.getElem?_setIfInBounds_self_of_lt hlt]
  simp
theorem mp_new {w : World} {t : Nat} {K : Value → World → Prop} {E : PanW} (hK : ∀ w', Mp w' w.heap.size [] → Chg NoS w w' → w'.heap.size = w.heap.size + 1 → K (.map (some w.heap.size)) w') : runV Tryz.prog (Instr.makeMap t none) w K E := by
  unfold runV
  rw [show (Instr.makeMap t none).run Tryz.prog w = .ok (.map (some w.heap.size)) (w.alloc (.map #[] 0)) from rfl]
  exact hK _ (blk_alloc w _) (chg_alloc w _ _) (size_alloc w _)

/-- where a reader lies -/
structure Rp where
  b : Nat
  a : Option Addr
  n : Nat
  c : Nat
  m : Nat
def keyV : List (List UInt8 × Value) := keyL.map fun x => (x.1, .int .i8 x.2)
structure Rst (w : World) (q : Rp) (ws : List Wd) : Prop where
  row : ∀ (k : Nat) (x : Wd), ws[k]? = some x → ∃ A, q.a = some A ∧ A.block ≠ q.b ∧ w.cell? (addK (addK A (k * 4)) 0) = some (.int .i8 (x.kind : Int)) ∧ w.cell? (addK (addK A (k * 4)) 1) = some (.string (bs x.txt)) ∧ w.cell? (addK (addK A (k * 4)) 2) = some (.int .u64 (x.num : Int)) ∧ w.cell? (addK (addK A (k * 4)) 3) = some (.int .i64 (x.pos : Int))
  len : q.n = ws.length
  keys : Mp w q.m keyV
  ne : q.m ≠ q.b
  small : ws.length ≤ 70000
  more : ∀ (k : Nat) (x : Wd), ws[k]? = some x → x.kind ≠ 0 → k + 1 < ws.length
  num : ∀ (k : Nat) (x : Wd), ws[k]? = some x → x.num ≤ 18446744073709551615
theorem Rst.keep {w w' : World} {q : Rp} {ws : List Wd} (h : Rst w q ws) (hc : Chg (OnlyB q.b) w w') : Rst w' q ws :=
  { row := fun k x hx => by
      obtain ⟨A, e, hne, h0, h1, h2, h3⟩ := h.row k x hx
      have hb : ∀ j, ¬ OnlyB q.b (addK (addK A (k * 4)) j).block := fun j => by rw [addK_block, addK_block]; exact hne
      exact ⟨A, e, hne, cell_keepS (S := NoS) h0 hc (hb 0), cell_keepS (S := NoS) h1 hc (hb 1), cell_keepS (S := NoS) h2 hc (hb 2), cell_keepS (S := NoS) h3 hc (hb 3)⟩
    len := h.len
    keys := hc.blk h.keys h.ne
    ne := h.ne
    small := h.small
    more := h.more
    num := h.num }
theorem toB {w w' : World} (hc : Chg NoS w w') (S : Nat → Prop) : Chg S w w' := hc.mono fun _ _ x => x.elim
structure Rdr (w : World) (q : Rp) (ws : List Wd) (i : Nat) : Prop where
  blk : w.heap[q.b]? = some (.cells #[.slice q.a q.n q.c, .int .i64 (i : Int), .map (some q.m)] 66 (0, 0))
  st : Rst w q ws
  lt : i < ws.length
theorem Rdr.keep {w w' : World} {q : Rp} {ws : List Wd} {i : Nat} (h : Rdr w q ws i) (hc : Chg NoS w w') : Rdr w' q ws i := ⟨hc.blk h.blk (fun x => x), h.st.keep (toB hc _), h.lt⟩
theorem Rdr.word {w : World} {q : Rp} {ws : List Wd} {i : Nat} (h : Rdr w q ws i) : ∃ x, ws[i]? = some x := ⟨_, List.getElem?_eq_getElem h.lt⟩
theorem some_w {A : Addr} {K : Addr → Prop} (h : K A) : wSome (some A) K := h
abbrev warr (x : Wd) : Array Value := #[.int .i8 (x.kind : Int), .string (bs x.txt), .int .u64 (x.num : Int), .int .i64 (x.pos : Int)]
/-- a chain of stores into a block of the call's own, as one -/
theorem put4 {w w1 : World} {g : Nat} {cs vs : List Value} {t : TypeId} {K : World → Prop} (hb : w1.heap[g]? = some (.cells cs.toArray t (0, 0))) (hc : Chg NoS w w1) (hg : w.heap.size ≤ g) (hl : cs.length = vs.length) (hv : ∀ v ∈ vs, oneC v = true)
    (hK : ∀ w2, w2.heap[g]? = some (.cells vs.toArray t (0, 0)) → Chg NoS w w2 → Chg (OnlyB g) w1 w2 → w2.heap.size = w1.heap.size → K w2) : setsW vs w1 ⟨g, 0, none⟩ 0 K :=
  sets_blk (vs := vs) hb (by simpa using hl) hv fun w2 b2 c2 z2 => hK w2 b2 (hc.trans2 c2 fun k hk e => by have : k = g := e; omega) c2 z2
theorem get_blk {w : World} {g : Nat} {vs : List Value} {t : TypeId} (h : w.heap[g]? = some (.cells vs.toArray t (0, 0))) (j : Nat) (v : Value) (hv : vs[j]? = some v) : w.cell? (addK ⟨g, 0, none⟩ j) = some v := by
  rw [addK_lit, Nat.zero_add, cell_blk h]; simpa using hv
theorem next_ok {w : World} {q : Rp} {ws : List Wd} {i : Nat} {x : Wd} (h : Rdr w q ws i) (hx : ws[i]? = some x) : Calls Tryz.prog 26 #[.pointer (some ⟨q.b, 0, none⟩)] w (endW (fun v w' => v = .agg (warr x) ∧ Chg NoS w w') (fun _ _ => False)) := by
  refine F26_calls _ ?_
  delta F26
  have hc1 : Chg NoS w (w.alloc (.cells #[.int .i8 0, .string { data := #[] }, .int .u64 0, .int .i64 0] 71)).drew := (chg_alloc w _ _).trans (chg_drew _ _)
  have hb1 : (w.alloc (.cells #[.int .i8 0, .string { data := #[] }, .int .u64 0, .int .i64 0] 71)).drew.heap[w.heap.size]? = some (.cells [.int .i8 0, .string { data := #[] }, .int .u64 0, .int .i64 0].toArray 71 (0, 0)) := blk_alloc w _
  generalize (w.alloc (.cells #[.int .i8 0, .string { data := #[] }, .int .u64 0, .int .i64 0] 71)).drew = w1 at hc1 hb1 ⊢
  have h1 := h.keep hc1
  obtain ⟨A, e, _, p0, p1, p2, p3⟩ := h1.st.row i x hx
  refine some_w (some_w ⟨_, _, _, by rw [addK_lit, cell_blk h1.blk]; rfl, _, by rw [addK_lit, cell_blk h1.blk]; rfl, by omega, ?_, ?_⟩)
  · have := h.st.len
    have := h.lt
    omega
  rw [e, Int.toNat_natCast]
  refine some_w ⟨_, p0, _, p1, _, p2, _, p3, ?_⟩
  refine (put4 (vs := [.int .i8 (x.kind : Int), .string (bs x.txt), .int .u64 (x.num : Int), .int .i64 (x.pos : Int)]) hb1 hc1 (Nat.le_refl _) rfl (by simp [oneC]) fun w2 b2 c2 _ _ => ?_ : setsW _ _ _ _ _)
  exact ⟨_, get_blk b2 0 _ rfl, _, get_blk b2 1 _ rfl, _, get_blk b2 2 _ rfl, _, get_blk b2 3 _ rfl, rfl, c2⟩
theorem aggW {x : Wd} {K : Int → ByteArray → Int → Int → Prop} (hK : K (x.kind : Int) (bs x.txt) (x.num : Int) (x.pos : Int)) :
    ∃ vs, Value.agg (warr x) = .agg (List.toArray vs) ∧ ∃ u rest, vs = u :: rest ∧ ∃ a, u = .int .i8 a ∧ ∃ u rest1, rest = u :: rest1 ∧ ∃ s, u = .string s ∧ ∃ u rest, rest1 = u :: rest ∧ ∃ b, u = .int .u64 b ∧ ∃ u rest1, rest = u :: rest1 ∧ ∃ c, u = .int .i64 c ∧ rest1 = [] ∧ K a s b c :=
  ⟨_, rfl, _, _, rfl, _, rfl, _, _, rfl, _, rfl, _, _, rfl, _, rfl, _, _, rfl, _, rfl, rfl, hK⟩
/-- the reader's place is set -/
theorem set_i {w : World} {q : Rp} {ws : List Wd} {i j : Nat} {v : Value} {K : World → Prop} (h : Rdr w q ws i) (hj : j < ws.length) (hv : v = .int .i64 (j : Int)) (hK : ∀ w', Rdr w' q ws j → Chg (OnlyB q.b) w w' → w'.heap.size = w.heap.size → K w') : setW w (addK ⟨q.b, 0, none⟩ 1) v K := by
  subst hv
  refine setW_blk h.blk (by simp) (by simp [oneC]) fun w' hb hc hz => ?_
  exact hK w' ⟨hb, h.st.keep hc, hj⟩ hc hz
theorem take_ok {w : World} {q : Rp} {ws : List Wd} {i : Nat} (h : Rdr w q ws i) (kind : Nat) (txt : List UInt8) (hk : kind ≠ 0) :
    Calls Tryz.prog 24 #[.pointer (some ⟨q.b, 0, none⟩), .int .i8 (kind : Int), .string (bs txt)] w (endW (fun v w' => v = .bool (isW ws i kind txt) ∧ Rdr w' q ws (if isW ws i kind txt = true then i + 1 else i) ∧ Chg (OnlyB q.b) w w') (fun _ _ => False)) := by
  obtain ⟨x, hx⟩ := h.word
  refine F24_calls _ _ _ ?_
  delta F24
  refine Calls.then (next_ok h hx) ?_
  rintro v w1 ⟨rfl, c1⟩
  refine aggW ?_
  refine (put4 (w := w1) (vs := [.int .i8 (x.kind : Int), .string (bs x.txt), .int .u64 (x.num : Int), .int .i64 (x.pos : Int)]) (cs := [.int .i8 0, .string { data := #[] }, .int .u64 0, .int .i64 0]) (blk_alloc w1 _) (chg_alloc w1 _ _) (Nat.le_refl _) rfl (by simp [oneC]) fun w2 b2 c2 _ _ => ?_ : setsW _ _ _ _ _)
  have c12 := c1.trans c2
  have h2 := h.keep c12
  have hw : isW ws i kind txt = tk x kind txt := by unfold isW; rw [hx]
  rw [hw]
  refine ⟨_, get_blk b2 0 _ rfl, ?_⟩
  by_cases h1 : x.kind = kind
  · rw [if_pos (by simp [h1])]
    refine ⟨_, get_blk b2 1 _ rfl, ?_⟩
    rw [bs_beq]
    by_cases ht : x.txt = txt
    · rw [if_neg (by simp [ht])]
      have hT : tk x kind txt = true := by simp [tk, h1, ht]
      rw [hT, if_pos rfl]
      have hlt := h.st.more i x hx (by omega)
      have hs := h.st.small
      refine some_w ⟨_, by rw [addK_lit, cell_blk h2.blk]; rfl, some_w ?_⟩
      refine set_i (j := i + 1) h2 hlt (by rw [i64w _ (by omega) (by omega)]; rfl) fun w3 h3 c3 _ => ?_
      exact ⟨rfl, h3, (toB c12 _).trans c3⟩
    · rw [if_pos (by simp [ht])]
      have hT : tk x kind txt = false := by simp [tk, ht]
      rw [hT, if_neg (by simp)]
      exact ⟨rfl, h2, toB c12 _⟩
  · rw [if_neg (by simp; omega)]
    have hT : tk x kind txt = false := by simp [tk, h1]
    rw [hT, if_neg (by simp)]
    exact ⟨rfl, h2, toB c12 _⟩
/-- how the reader gives up: a fault at a word -/
def Bad (w : World) (q : Rp) (ws : List Wd) (i : Nat) : PanW := fun c w' => ∃ p x, ws[i]? = some x ∧ c = [{ v := .iface 61 (.pointer (some ⟨p, 0, none⟩)), recovered := false }] ∧ w.heap.size ≤ p ∧ w'.heap[p]? = some (.cells #[.int .i64 160, .int .i64 (x.pos : Int), .string (bs x.txt)] 74 (0, 0)) ∧ Chg (OnlyB q.b) w w'
theorem Bad.from {w0 w w' : World} {q : Rp} {ws : List Wd} {i : Nat} {c : List PanicEntry} (h : Bad w q ws i c w') (hc : Chg (OnlyB q.b) w0 w) : Bad w0 q ws i c w' := by
  obtain ⟨p, x, h1, h2, h3, h4, h5⟩ := h
  exact ⟨p, x, h1, h2, Nat.le_trans hc.size h3, h4, hc.trans h5⟩
theorem bad_ok {w : World} {q : Rp} {ws : List Wd} {i : Nat} (h : Rdr w q ws i) : Calls Tryz.prog 27 #[.pointer (some ⟨q.b, 0, none⟩)] w (endW (fun _ _ => False) (Bad w q ws i)) := by
  obtain ⟨x, hx⟩ := h.word
  refine F27_calls _ ?_
  delta F27
  refine Calls.mono (next_ok h hx) fun e w1 he => ?_
  cases e with
  | panicked _ => exact he.elim
  | outgrown => exact he.elim
  | returned v =>
    obtain ⟨rfl, c1⟩ := he
    refine aggW ?_
    have h1 := h.keep c1
    refine Calls.mono (next_ok h1 hx) fun e w2 he => ?_
    cases e with
    | panicked _ => exact he.elim
    | outgrown => exact he.elim
    | returned v =>
      obtain ⟨rfl, c2⟩ := he
      refine aggW ?_
      have c3 := chg_alloc w2 (.cells #[.int .i64 160, .int .i64 (x.pos : Int), .string (bs x.txt)] 74) NoS
      have c12 := c1.trans c2
      exact ⟨w2.heap.size, x, hx, rfl, c12.size, blk_alloc w2 _, toB (c12.trans c3) _⟩
/-- a call that gives up -/
theorem Calls.bad {f : FuncId} {args : Array Value} {w w0 : World} {q : Rp} {ws : List Wd} {i : Nat} {R : Value → World → Prop} {E : PanW} (h : Calls Tryz.prog f args w (endW (fun _ _ => False) (Bad w q ws i))) (hc : Chg (OnlyB q.b) w0 w) (hE : ∀ c w', Bad w0 q ws i c w' → E c w') : Calls Tryz.prog f args w (endW R E) :=
  h.mono fun e w' he => by
    cases e with
    | returned _ => exact he.elim
    | outgrown => exact he.elim
    | panicked c => exact hE c w' (Bad.from he hc)
theorem must_ok {w : World} {q : Rp} {ws : List Wd} {i : Nat} (h : Rdr w q ws i) (kind : Nat) (txt : List UInt8) (hk : kind ≠ 0) :
    Calls Tryz.prog 50 #[.pointer (some ⟨q.b, 0, none⟩), .int .i8 (kind : Int), .string (bs txt)] w (endW (fun v w' => isW ws i kind txt = true ∧ Rdr w' q ws (i + 1) ∧ Chg (OnlyB q.b) w w') (fun c w' => isW ws i kind txt = false ∧ Bad w q ws i c w')) := by
  refine F50_calls _ _ _ ?_
  delta F50
  refine Calls.then (take_ok h kind txt hk) ?_
  rintro v w1 ⟨rfl, h1, c1⟩
  refine ⟨_, rfl, ?_⟩
  cases hw : isW ws i kind txt with
  | true =>
    rw [hw, if_pos rfl] at h1
    rw [if_neg (by simp)]
    exact ⟨rfl, h1, c1⟩
  | false =>
    rw [hw, if_neg (by simp)] at h1
    rw [if_pos (by rfl)]
    exact Calls.bad (bad_ok h1) c1 fun c w' hb => ⟨rfl, hb⟩
/-- a term of a sign over kids -/
theorem of_ok (w : World) (op : Int) (b : Option Addr) (m c : Nat) : Calls Tryz.prog 91 #[.int .i8 op, .slice b m c] w (endW (fun v w' => v = .agg (V4.arr ⟨op, 0, 0, b, m, c⟩) ∧ Chg NoS w w') (fun _ _ => False)) := by
  refine F91_calls _ _ _ _ ?_
  delta F91
  refine (put4 (w := w) (vs := [.int .i8 op, .int .i8 0, .int .u64 0, .slice b m c]) (cs := [.int .i8 0, .int .i8 0, .int .u64 0, .slice none 0 0]) (blk_alloc w _) (chg_alloc w _ _) (Nat.le_refl _) rfl (by simp [oneC]) fun w2 b2 c2 _ _ => ?_ : setsW _ _ _ _ _)
  exact ⟨_, get_blk b2 0 _ rfl, _, get_blk b2 1 _ rfl, _, get_blk b2 2 _ rfl, _, _, _, get_blk b2 3 _ rfl, rfl, c2⟩
end Go.Proofs.YtpolbdakhfcilaaGreatDoor.B
