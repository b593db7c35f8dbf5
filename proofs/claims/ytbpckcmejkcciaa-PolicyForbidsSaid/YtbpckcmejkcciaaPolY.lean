/-
  Policies: a term made plain, by the document.
-/
import Derived.Test.YtbpckcmejkcciaaPolS
import Derived.Test.YtbpckcmejkcciaaBR
set_option maxRecDepth 100000
set_option linter.unusedVariables false
set_option linter.unusedSimpArgs false
namespace Go.Proofs.Ytbpckcmejkcciaa.B
open Go Go.Proofs Go.Proofs.YtbpckcmejkcciaaEng

/-- what comes back is this term, whose kids lie in blocks of S -/
def RetO (w : World) (S : Nat → Prop) (t : Tm) (r : Value) (w' : World) : Prop := ∃ u : V4, r = .agg u.arr ∧ u.own w' S t ∧ Chg NoS w w'
/-- the end of a call: the answer is put down and told -/
theorem ret4 {w wX : World} {g : Nat} {cs : Array Value} {S T : Nat → Prop} {t : Tm} {u : V4} (hZ : Mine w wX g cs 26) (hs : cs.size = 4) (hu : u.own wX S t) (hg : ∀ b, S b → b ≠ g ∧ T b) :
    setW wX (addK ⟨g, 0, none⟩ 0) (.int .i8 u.op) fun w1 => setW w1 (addK ⟨g, 0, none⟩ 1) (.int .i8 u.f) fun w2 => setW w2 (addK ⟨g, 0, none⟩ 2) (.int .u64 u.n) fun w3 => setW w3 (addK ⟨g, 0, none⟩ 3) (.slice u.b u.m u.c) fun w4 =>
      ∃ x, w4.cell? (addK ⟨g, 0, none⟩ 0) = some (.int .i8 x) ∧ ∃ x1, w4.cell? (addK ⟨g, 0, none⟩ 1) = some (.int .i8 x1) ∧ ∃ x2, w4.cell? (addK ⟨g, 0, none⟩ 2) = some (.int .u64 x2) ∧ ∃ a n c, w4.cell? (addK ⟨g, 0, none⟩ 3) = some (.slice a n c) ∧ RetO w T t (.agg #[.int .i8 x, .int .i8 x1, .int .u64 x2, .slice a n c]) w4 := by
  refine set4 u hZ hs ?_
  intro wB hMB hcB
  exact get4 hMB ⟨u, rfl, hu.keep hcB (fun b hb e => by have : b = g := e; exact (hg b hb).1 this) fun b hb => (hg b hb).2, hMB.2.1⟩
theorem RetT_O (w : World) (t : Tm) : RetT w t = RetO w (fun b => w.heap.size ≤ b) t := rfl
theorem rFilter_ok (w : World) {op : Int} (h : -128 ≤ op ∧ op ≤ 127) : Calls Try.prog 48 #[.int .i8 op] w (endW (RetT w (filS op)) (fun _ _ => False)) := by
  refine F48_calls op ?_
  delta F48
  have hM0 := mine_alloc (Chg.refl NoS w) #[.int .i8 0, .int .i8 0, .int .u64 0, .slice none 0 0] 26
  generalize w.alloc (.cells #[.int .i8 0, .int .i8 0, .int .u64 0, .slice none 0 0] 26) = w1 at *
  have hb := blk_alloc w1 (.cells #[.int .i8 op, .int .i8 0, .int .u64 0, .slice none 0 0] 26)
  have hM1 := hM0.keep (chg_alloc w1 (.cells #[.int .i8 op, .int .i8 0, .int .u64 0, .slice none 0 0] 26) NoS)
  have hlt := lt_of_blk hM0.1
  generalize w1.alloc (.cells #[.int .i8 op, .int .i8 0, .int .u64 0, .slice none 0 0] 26) = w2 at *
  refine set4 ⟨6, 0, 0, some ⟨w1.heap.size, 0, none⟩, 1, 1⟩ hM1 rfl ?_
  intro w3 hM hc
  refine get4 hM ?_
  have hb3 := hc.blk hb (fun e => by have : w1.heap.size = w.heap.size := e; omega)
  refine ⟨⟨6, 0, 0, some ⟨w1.heap.size, 0, none⟩, 1, 1⟩, rfl, ?_, hM.2.1⟩
  exact own_mk (us := [⟨op, 0, 0, none, 0, 0⟩]) ⟨by omega, by omega, by omega, by omega, by omega, by omega⟩ rfl (by omega) (by omega) (.cons (own_bare _ _ h) .nil) (reads_lit hb3) (fun A e => by cases e; exact ⟨hM0.2.1.size, whole_lit hb3⟩)
/-- is a term that one, or a Filter of it -/
def isS (t : Tm) (op : Int) (fil : Bool) : Bool := if fil = true then (decide (opS t = 6) && (match kidsS t with
  | [] => false
  | k :: _ => decide (opS k = op))) else decide (opS t = op)
theorem is_says {t : Tm} {op : Int} {p : Bool} (h : rightS t p = true) (ho : op = 0 ∨ op = 1) : isS t op (!p) = saysS t op := by
  cases p with
  | true => rw [says_pred h]; simp [isS]
  | false =>
    have h1 := r_ops h
    have h2 : ¬ opS t ≤ 5 := fun h5 => by have := h1.2.2.2 h5; cases this
    have h3 : opS t ≠ op := by omega
    simp only [isS, saysS, h3]
    simp
    cases kidsS t <;> rfl
theorem rIs_ok {w : World} {t : Tm} {v : V4} {op : Int} {fil : Bool} (hv : v.is w t) (hk : opS t = 6 → kidsS t ≠ []) : Calls Try.prog 53 #[.agg v.arr, .int .i8 op, .bool fil] w (endW (fun r w' => r = .bool (isS t op fil) ∧ Chg NoS w w') (fun _ _ => False)) := by
  refine F53_calls v.op v.f v.n v.b v.m v.c op fil ?_
  delta F53
  have hP := mine_alloc (Chg.refl NoS w) v.arr 26
  generalize w.alloc (.cells v.arr 26) = w1 at *
  obtain ⟨ks, rfl, hlen, hmc, hcm, hrng, hget⟩ := TVal.parts hv
  by_cases h1 : fil = true
  · rw [if_pos h1]
    refine ⟨_, (mine_cell hP 0).trans rfl, ?_⟩
    by_cases h6 : v.op = 6
    · rw [if_pos (by simp [h6])]
      refine ⟨_, _, _, (mine_cell hP 3).trans rfl, ?_⟩
      match ks, hk h6, hget, hlen with
      | k :: ks, _, hget, hlen =>
        obtain ⟨A, hA, hT⟩ := hget 0 k rfl
        obtain ⟨o2, f2, n2, b2, m2, c2, g0, _, _, _, gv⟩ := hT.keep hP.2.1
        rw [hA, wSome_some]
        refine ⟨by omega, by simp [hlen], o2, g0, ?_, hP.2.1⟩
        obtain ⟨_, rfl, _⟩ := TVal.parts gv
        simp only [isS, opS, kidsS, h1, h6]
        by_cases h7 : o2 = op <;> simp [h7]
    · rw [if_neg (by simp [h6])]
      refine ⟨?_, hP.2.1⟩
      simp [isS, opS, h1, h6]
  · rw [if_neg h1]
    refine ⟨_, (mine_cell hP 0).trans rfl, ?_, hP.2.1⟩
    simp only [isS, opS, h1]
    by_cases h7 : v.op = op <;> simp [h7]
theorem rJoined_ok {w : World} {op : Int} {a : Option Addr} {m c : Nat} {us : List V4} {ls : List Tm} {vn : V4} {tn : Tm} {S : Nat → Prop} (hop : -128 ≤ op ∧ op ≤ 127) (hv : VO w S us ls) (hr : Reads w a (flat us)) (hm : m = ls.length) (hmc : m ≤ c) (hc : c ≤ 9223372036854775807)
    (hb : ∀ A, a = some A → S A.block ∧ Whole w A) (hn : vn.own w S tn) (hS : ∀ b, S b → b < w.heap.size) :
    Calls Try.prog 47 #[.int .i8 op, .slice a m c, .agg vn.arr] w (endW (RetO w S (joinS op ls tn)) (fun _ _ => False)) := by
  refine F47_calls op a m c vn.op vn.f vn.n vn.b vn.m vn.c ?_
  delta F47
  have hP0 := mine_alloc (Chg.refl NoS w) vn.arr 26
  have hs1 := size_alloc w (.cells vn.arr 26)
  generalize w.alloc (.cells vn.arr 26) = w1 at *
  have hZ0 := mine_alloc hP0.2.1 #[.int .i8 0, .int .i8 0, .int .u64 0, .slice none 0 0] 26
  have hs2 := size_alloc w1 (.cells #[.int .i8 0, .int .i8 0, .int .u64 0, .slice none 0 0] 26)
  have hP1 := hP0.keep (chg_alloc w1 (.cells #[.int .i8 0, .int .i8 0, .int .u64 0, .slice none 0 0] 26) NoS)
  generalize w1.alloc (.cells #[.int .i8 0, .int .i8 0, .int .u64 0, .slice none 0 0] 26) = w2 at *
  have hc02 := hP1.2.1
  have hSg : ∀ b, S b → b ≠ w1.heap.size ∧ S b := fun b hb => ⟨fun e => by have := hS b hb; omega, hb⟩
  match ls, hv with
  | [], .nil =>
    rw [if_pos (by simp [hm])]
    refine get4 hP1 ?_
    exact ret4 hZ0 rfl (hn.keepN hc02) hSg
  | [k], .cons (v := u) hk .nil =>
    have h1 : m = 1 := hm
    rw [if_neg (by simp [h1]), if_pos (by simp [h1])]
    obtain ⟨A, hA, q0, q1, q2, q3⟩ := reads4 (j := 0) (reads_keep hr hc02) rfl
    rw [Nat.zero_mul] at q0 q1 q2 q3
    rw [hA, wSome_some]
    refine ⟨by omega, by omega, _, q0, _, q1, _, q2, _, _, _, q3, ?_⟩
    exact ret4 hZ0 rfl (hk.keepN hc02) hSg
  | k :: j :: ls, .cons hk (.cons hj hl) =>
    have h1 : m = ls.length + 2 := hm
    rw [if_neg (by simp [h1]; omega), if_neg (by simp [h1]; omega)]
    refine ret4 (u := ⟨op, 0, 0, a, m, c⟩) hZ0 rfl ?_ hSg
    exact own_mk ⟨hop.1, hop.2, by omega, by omega, by omega, by omega⟩ hm hmc hc (.cons (hk.keepN hc02) (.cons (hj.keepN hc02) (hl.keepN hc02))) (reads_keep hr hc02) fun A hA => ⟨(hb A hA).1, (hb A hA).2.chg hc02 (fun x => x)⟩

/-- what the document's plain is asked -/
def RPlain (t : Tm) : Prop := ∀ (p : Bool) (v : V4) (w : World), rightS t p = true → v.is w t → tsize t ≤ 1000000 → Calls Try.prog 33 #[.agg v.arr] w (endW (RetT w (plainS t)) (fun _ _ => False))
/-- what of a row is left, by the document -/
def leftR (g : List Tm) (nothing : Int) (fil : Bool) : List Tm := g.filter fun k => !isS k nothing fil
theorem leftR_take {g : List Tm} {nothing : Int} {fil : Bool} {j : Nat} (hj : j < g.length) : leftR (g.take (j + 1)) nothing fil = leftR (g.take j) nothing fil ++ (if isS g[j] nothing fil = true then [] else [g[j]]) := by
  rw [take_snoc hj]
  unfold leftR
  rw [List.filter_append, List.filter_cons]
  by_cases h : isS g[j] nothing fil = true <;> simp [h]
theorem leftR_len (g : List Tm) (nothing : Int) (fil : Bool) : (leftR g nothing fil).length ≤ g.length := List.length_filter_le _ _
/-- what the document's row gives back -/
def RetRow (w : World) (ts : List Tm) (fnd : Bool) (r : Value) (w' : World) : Prop := ∃ a c us, r = .tuple #[.slice a ts.length c, .bool fnd] ∧ w'.ownsRow w.heap.size 26 4 (.slice a ts.length c) ts.length (flat us) ∧ VO w' (fun b => w.heap.size ≤ b ∧ b < w'.heap.size) us ts ∧ Chg NoS w w'
theorem get_ofTake {w : World} {ks : List Tm} {b : Option Addr} {j : Nat} (h : ∀ (j : Nat) (k : Tm), ks[j]? = some k → ∃ A, b = some A ∧ TmP w k (addK A (j * 4))) (hj : j < ks.length) : ∃ A, b = some A ∧ TmP w ks[j] (addK A (j * 4)) := h j _ (List.getElem?_eq_getElem hj)
theorem tup2 {a : Option Addr} {n c : Nat} {b : Bool} {K : Option Addr → Nat → Nat → Bool → Prop} (hK : K a n c b) :
    ∃ vs, Value.tuple #[.slice a n c, .bool b] = .tuple (List.toArray vs) ∧ ∃ u rest, vs = u :: rest ∧ ∃ a n c, u = .slice a n c ∧ ∃ u rest1, rest = u :: rest1 ∧ ∃ b, u = .bool b ∧ rest1 = [] ∧ K a n c b :=
  ⟨_, rfl, _, _, rfl, _, _, _, rfl, _, _, rfl, _, rfl, rfl, hK⟩
end Go.Proofs.Ytbpckcmejkcciaa.B
