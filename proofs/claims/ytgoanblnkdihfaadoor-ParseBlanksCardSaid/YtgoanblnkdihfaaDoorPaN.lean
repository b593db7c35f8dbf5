/-
  parse: Policy.
-/
import Derived.Test.YtgoanblnkdihfaaDoorPaM
set_option maxRecDepth 100000
set_option linter.unusedVariables false
set_option linter.unusedSimpArgs false
namespace Go.Proofs.YtgoanblnkdihfaaDoor.B
open Go Go.Proofs Go.Proofs.YtgoanblnkdihfaaDoorEng Go.RowKit

def cntW : List UInt8 := [99, 111, 117, 110, 116]
/-- queries from a place on: where they end, and whether well -/
inductive QsR (ws : List Wd) : Nat → List (List UInt8 × Tm) → Nat → Bool → Prop where
  | stop {i : Nat} : isW ws i 1 cntW = false → QsR ws i [] i true
  | bad {i j : Nat} : isW ws i 1 cntW = true → Qa ws (i + 1) (.bad j) → QsR ws i [] j false
  | go {i j e : Nat} {x : Wd} {t : Tm} {l : List (List UInt8 × Tm)} {b : Bool} : isW ws i 1 cntW = true → ws[i + 1]? = some x → Qa ws (i + 1) (.ok t j) → QsR ws j l e b → QsR ws i ((x.txt, t) :: l) e b
/-- what Policy answers -/
inductive Fo where
  | ok (main : Tm) (qs : List (List UInt8 × Tm))
  | fault (code pos : Nat) (txt : List UInt8)
def endS (t : Tm) (l : List (List UInt8 × Tm)) (x : Wd) (b : Bool) : Fo := if b = true ∧ x.kind = 0 then (if smallS (t :: l.map (·.2)) = true then .ok t l else .fault 200 0 []) else .fault 160 x.pos x.txt
def FileP (ws : List Wd) (o : Fo) : Prop :=
  (∃ j x, Pa ws (.row .pol) 0 (.bad j) ∧ ws[j]? = some x ∧ o = .fault 160 x.pos x.txt) ∨
  ∃ t j l e b x, Pa ws (.row .pol) 0 (.ok t j) ∧ QsR ws j l e b ∧ ws[e]? = some x ∧ o = endS t l x b
def PolP (t : List UInt8) (o : Fo) : Prop := match allR t with
  | .inr x => o = .fault x.1 x.2.1 x.2.2
  | .inl ws => FileP ws o
abbrev zeroP : Array Value := #[.int .i8 0, .int .i8 0, .int .u64 0, .slice none 0 0, .slice none 0 0]
def bsQ (l : List (List UInt8 × Tm)) : List Qu := l.map fun q => (bs q.1, q.2)
def RetF (w : World) (o : Fo) (v : Value) (w' : World) : Prop := Chg NoS w w' ∧ match o with
  | .ok main qs => ∃ (u : V4) (qa : Option Addr) (c : Nat), v = .tuple #[.agg (parr u qa qs.length c), .nilIface] ∧ u.is w' main ∧ QsAt w' (bsQ qs) qa ∧ qs.length ≤ 70000
  | .fault code pos txt => ∃ p, v = .tuple #[.agg zeroP, .iface 48 (.pointer (some ⟨p, 0, none⟩))] ∧ w.heap.size ≤ p ∧ w'.heap[p]? = some (.cells #[.int .i64 (code : Int), .int .i64 (pos : Int), .string (bs txt)] 62 (0, 0))
theorem load30 (b : Nat) (w : World) (K : Value → Prop) : loadW Tryd.prog 31 (.pointer (some ⟨b, 0, none⟩)) w K = (∃ x, w.cell? (addK ⟨b, 0, none⟩ 0) = some (.int .i8 x) ∧ ∃ y, w.cell? (addK ⟨b, 0, none⟩ 1) = some (.int .i8 y) ∧ ∃ z, w.cell? (addK ⟨b, 0, none⟩ 2) = some (.int .u64 z) ∧ ∃ a n c, w.cell? (addK ⟨b, 0, none⟩ 3) = some (.slice a n c) ∧ ∃ a2 n2 c2, w.cell? (addK ⟨b, 0, none⟩ 4) = some (.slice a2 n2 c2) ∧ K (.agg #[.int .i8 x, .int .i8 y, .int .u64 z, .slice a n c, .slice a2 n2 c2])) := by kernel_rfl
theorem load32 (b : Nat) (w : World) (K : Value → Prop) : loadW Tryd.prog 33 (.pointer (some ⟨b, 0, none⟩)) w K = (∃ v, w.cell? ⟨b, 0, none⟩ = some v ∧ K v) := by kernel_rfl
abbrev RSp (pb eb : Nat) : List RS := [RS.cell (.pointer (some ⟨pb, 0, none⟩)) 31, RS.cell (.pointer (some ⟨eb, 0, none⟩)) 33]
theorem res_ok {w : World} {pb eb : Nat} {u : V4} {qa : Option Addr} {qn qc : Nat} {v : Value} {K : List Value → Prop} (hp : w.heap[pb]? = some (.cells (parr u qa qn qc) 31 (0, 0))) (he : w.heap[eb]? = some (.cells #[v] 33 (0, 0))) (hK : K [.agg (parr u qa qn qc), v]) : resV Tryd.prog (RSp pb eb) w K := by
  unfold resV resV resV
  rw [load30]
  have l : ∀ j x, (parr u qa qn qc)[j]? = some x → w.cell? (addK ⟨pb, 0, none⟩ j) = some x := fun j x hx => by rw [addK_lit, Nat.zero_add, cell_blk hp]; exact hx
  refine ⟨_, l 0 _ rfl, _, l 1 _ rfl, _, l 2 _ rfl, _, _, _, l 3 _ rfl, _, _, _, l 4 _ rfl, ?_⟩
  rw [load32]
  exact ⟨v, by rw [cell_blk he]; rfl, hK⟩
theorem enter14 (l : Array Value) (w : World) : (callFunc 9 l).run Tryd.prog w = .ok (.enter 9 l) w := by
  simp [go_sem]
theorem leave_idle {pb eb : Nat} {rs : List RS} {R : Value → World → Prop} {E : PanW} {w : World} (h : resV Tryd.prog rs w fun l => R (oneOrTuple l) w) : leaveW Tryd.prog rs R E [(9, [.pointer (some ⟨pb, 0, none⟩), .pointer (some ⟨eb, 0, none⟩)])] .returning w := by
  refine ⟨by simp, fun w => enter14 _ w, ?_⟩
  refine (catch_idle _ _ w).mono ?_
  rintro e u' w' ⟨rfl, rfl, rfl⟩
  exact h
abbrev u0 : V4 := ⟨0, 0, 0, none, 0, 0⟩
/-- the reader's fault is laid, and Policy returns -/
theorem leave_fault {w w1 : World} {t : List UInt8} {pb eb p : Nat} {x : Wd} {c0 c1 c2 c3 c4 y : Value} {R : Value → World → Prop} {E : PanW} (hR : ∀ v w', (∃ o, PolP t o ∧ RetF w o v w') → R v w') (hP : PolP t (.fault 160 x.pos x.txt))
    (hc : Chg NoS w w1) (hp : w1.heap[pb]? = some (.cells #[c0, c1, c2, c3, c4] 31 (0, 0))) (he : w1.heap[eb]? = some (.cells #[y] 33 (0, 0))) (hb : w.heap.size ≤ pb) (hb2 : w.heap.size ≤ eb) (hne : pb ≠ eb)
    (hf : w1.heap[p]? = some (.cells #[.int .i64 160, .int .i64 (x.pos : Int), .string (bs x.txt)] 62 (0, 0))) (hpw : w.heap.size ≤ p) (hn1 : p ≠ pb) (hn2 : p ≠ eb) :
    leaveW Tryd.prog (RSp pb eb) R E [(9, [.pointer (some ⟨pb, 0, none⟩), .pointer (some ⟨eb, 0, none⟩)])] (.panicking [{ v := .iface 48 (.pointer (some ⟨p, 0, none⟩)), recovered := false }]) w1 := by
  refine ⟨by simp, fun w => enter14 _ w, ?_⟩
  refine (catch_fault pb eb ⟨p, 0, none⟩ w1 c0 c1 c2 c3 c4 y hp he hne).mono ?_
  rintro e u' w' ⟨rfl, rfl, h1, h2, h3⟩
  refine res_ok (u := u0) h1 h2 ?_
  refine hR _ _ ⟨_, hP, hc.trans2 h3 fun k hk e => by rcases e with e | e <;> omega, p, rfl, hpw, ?_⟩
  exact h3.blk hf fun e => by rcases e with e | e; exact hn1 e; exact hn2 e
end Go.Proofs.YtgoanblnkdihfaaDoor.B
