/-
  scan: words laid down; what a number is.
-/
import Derived.Test.YthifnahfcbgnoaaDoorScC
set_option maxRecDepth 100000
set_option linter.unusedVariables false
set_option linter.unusedSimpArgs false
namespace Go.Proofs.YthifnahfcbgnoaaDoor.B
open Go Go.Proofs Go.Proofs.YthifnahfcbgnoaaDoorEng Go.RowKit

structure Wd where
  kind : Nat
  txt : List UInt8
  num : Nat
  pos : Nat
deriving DecidableEq
def wcells (ws : List Wd) : List Value := ws.flatMap fun x => [.int .i8 (x.kind : Int), .string (bs x.txt), .int .u64 (x.num : Int), .int .i64 (x.pos : Int)]
theorem wcells_length (ws : List Wd) : (wcells ws).length = 4 * ws.length := by
  induction ws with
  | nil => rfl
  | cons x r ih => simp only [wcells, List.flatMap_cons, List.length_append, List.length_cons, List.length_nil] at ih ⊢; omega
theorem wcells_append (a b : List Wd) : wcells (a ++ b) = wcells a ++ wcells b := by simp [wcells]
theorem info39 : (Tryd.prog.info? 39).map (fun i => (i.zero, i.size, i.bytes)) = some (some (.agg #[.int .i8 0, .string ⟨#[]⟩, .int .u64 0, .int .i64 0]), 4, 40) := by kernel_rfl
abbrev wobj (x : Wd) : Obj := .cells #[.int .i8 (x.kind : Int), .string (bs x.txt), .int .u64 (x.num : Int), .int .i64 (x.pos : Int)] 39
theorem push_ok {w : World} {base n : Nat} {v : Value} {ws : List Wd} {x : Wd} {K : Value → World → Prop} {E : PanW} (ho : w.ownsRow base 39 4 v n (wcells ws)) (hn : n ≤ 1000000) (hbase : base ≤ w.heap.size)
    (hK : ∀ a' c' w', w'.ownsRow base 39 4 (.slice a' (n + 1) c') (n + 1) (wcells (ws ++ [x])) → Chg (fun k => base ≤ k) w w' → K (.slice a' (n + 1) c') w') :
    runV Tryd.prog (Builtin.append_ #[22, 22] 22 #[v, .slice (some ⟨w.heap.size, 0, none⟩) 1 1]) (w.alloc (wobj x)) K E := by
  have hca := chg_alloc w (wobj x) NoS
  refine row_append (z := .agg #[.int .i8 0, .string ⟨#[]⟩, .int .u64 0, .int .i64 0]) (size := 4) (bytes := 40) (base := base) (news := [.int .i8 (x.kind : Int), .string (bs x.txt), .int .u64 (x.num : Int), .int .i64 (x.pos : Int)]) Tryd.underlying22 Tryd.underlying22 info39 rfl (own_of_chg ho hca fun _ _ x => x) rfl (reads_lit (blk_alloc w _)) (fun e => by cases e) (fun u hu => ?_) (by omega) (by omega) (by rw [size_alloc]; omega) ?_
  · simp only [List.mem_cons, List.mem_nil_iff, or_false] at hu
    rcases hu with rfl | rfl | rfl | rfl <;> rfl
  intro a' c' w' ho' hc' hb'
  refine hK a' c' w' (by rw [wcells_append]; exact ho') ?_
  exact (hca.mono fun _ _ x => x.elim).trans (hc'.mono fun k _ hk => (own_lt' ho hk).2)

/-- a reader and the words that it has -/
def RdO (w : World) (base r : Nat) (t : List UInt8) (k : Nat) (ws : List Wd) : Prop := ∃ a n c, Rd w r t k a n c ∧ w.ownsRow base 39 4 (.slice a n c) n (wcells ws) ∧ n = ws.length ∧ r < base ∧ base ≤ w.heap.size ∧ ws.length ≤ 100000
theorem RdO.chg {w w' : World} {base r : Nat} {t : List UInt8} {k : Nat} {ws : List Wd} (h : RdO w base r t k ws) (hc : Chg NoS w w') : RdO w' base r t k ws := by
  obtain ⟨a, n, c, h1, h2, h3, h4, h5, h6⟩ := h
  exact ⟨a, n, c, h1.chg hc, own_of_chg h2 hc (fun _ _ x => x), h3, h4, by have := hc.size; omega, h6⟩
theorem set2 {w : World} {r : Nat} {x0 x1 x2 v : Value} {K : World → Prop} (hb : w.heap[r]? = some (.cells #[x0, x1, x2] 47 (0, 0))) (hv : oneC v = true) (hK : ∀ w', w'.heap[r]? = some (.cells #[x0, x1, v] 47 (0, 0)) → Chg (OnlyB r) w w' → w'.heap.size = w.heap.size → K w') : setW w (addK ⟨r, 0, none⟩ 2) v K :=
  sets_part (w := w) (b := r) (t := 47) (K := K) [v] 2 #[x0, x1, x2] hb (Nat.le_refl 3) (by simpa using hv) fun w' b' c' s' => hK w' b' c' s'
theorem set1 {w : World} {r : Nat} {x0 x1 x2 v : Value} {K : World → Prop} (hb : w.heap[r]? = some (.cells #[x0, x1, x2] 47 (0, 0))) (hv : oneC v = true) (hK : ∀ w', w'.heap[r]? = some (.cells #[x0, v, x2] 47 (0, 0)) → Chg (OnlyB r) w w' → w'.heap.size = w.heap.size → K w') : setW w (addK ⟨r, 0, none⟩ 1) v K :=
  sets_part (w := w) (b := r) (t := 47) (K := K) [v] 1 #[x0, x1, x2] hb (show 2 ≤ 3 by omega) (by simpa using hv) fun w' b' c' s' => hK w' b' c' s'

/-- what comes of reading at a place: a word's kind, end and number; or a fault's number and end -/
inductive One where
  | ok (kind e num : Nat)
  | bad (code e : Nat)
def Res (w : World) (base r : Nat) (t : List UInt8) (k : Nat) (ws : List Wd) (o : One) (v : Value) (w' : World) : Prop := Chg (fun b => r ≤ b) w w' ∧ (match o with
  | .ok kd e m => v = .pointer none ∧ RdO w' base r t e (ws ++ [⟨kd, cut t k e, m, k⟩])
  | .bad code e => ∃ b, v = .pointer (some ⟨b, 0, none⟩) ∧ w.heap.size ≤ b ∧ w'.heap[b]? = some (.cells #[.int .i64 (code : Int), .int .i64 (k : Int), .string (bs (cut t k e))] 44 (0, 0)))
theorem Res.of_chg {w w1 w' : World} {base r : Nat} {t : List UInt8} {k : Nat} {ws : List Wd} {o : One} {v : Value} (hc : Chg NoS w w1) (h : Res w1 base r t k ws o v w') : Res w base r t k ws o v w' := by
  refine ⟨(hc.mono fun _ _ x => x.elim).trans h.1, ?_⟩
  have h2 := h.2
  cases o with
  | ok kd e m => exact h2
  | bad code e =>
    obtain ⟨b, h1, h2, h3⟩ := h2
    exact ⟨b, h1, by have := hc.size; omega, h3⟩
theorem bad_res {w : World} {base r k : Nat} {t : List UInt8} {ws : List Wd} (h : RdO w base r t k ws) {code e : Nat} {ev : Nat} {R : Value → World → Prop} {E : PanW} (hk : k ≤ e) (he : e ≤ t.length) (hR : ∀ v w', Res w base r t k ws (.bad code e) v w' → R v w') :
    Calls Tryd.prog 23 #[.pointer (some ⟨r, 0, none⟩), .int .i64 (code : Int), .int .i64 (e : Int)] w (endW (fun (v : Value) (w' : World) => ∃ (p : Option Addr), v = Value.pointer p ∧ R (Value.pointer p) w') (fun _ _ => False)) := by
  obtain ⟨a, n, c, h1, h2, h3, h4, h5, h6⟩ := h
  refine Calls.then (wrong_ok h1 code e hk he) ?_
  rintro v w' ⟨b, rfl, hb, hcell, hc⟩
  exact ⟨_, rfl, hR _ _ ⟨hc.mono fun _ _ x => x.elim, b, rfl, hb, hcell⟩⟩

def closedAt (t : List UInt8) (e m : Nat) : One := if e < t.length ∧ isAl (g t e) = true then .bad 150 e else .ok 2 e m
theorem put_ok {w : World} {base r k : Nat} {t : List UInt8} {ws : List Wd} (h : RdO w base r t k ws) (e m : Nat) (hk : k ≤ e) (he : e ≤ t.length) (ht : t.length ≤ 65536) (hws : ws.length < 100000) :
    Calls Tryd.prog 39 #[.pointer (some ⟨r, 0, none⟩), .int .i64 (e : Int), .int .u64 (m : Int)] w (endW (Res w base r t k ws (closedAt t e m)) (fun _ _ => False)) := by
  refine F39_calls _ _ _ ?_
  delta F39
  have h0 := h
  obtain ⟨a, n, c, h1, h2, h3, h4, h5, h6⟩ := h
  refine ⟨fun s w' => w' = w ∧ ¬ (e < t.length ∧ isAl (g t e) = true), ?_, ?_⟩
  · rintro s w1 ⟨rfl, hno⟩ _
    refine some_i (some_i (some_i (some_i ⟨_, _, _, h1.drew.l, _, h1.drew.s, _, h1.drew.at_, by omega, by rw [bs_size]; omega, by omega, by rw [Int.toNat_natCast]; omega, _, h1.drew.at_, (chg_alloc w1.drew _ NoS).sameOld, ?_⟩)))
    rw [Int.toNat_natCast, Int.toNat_natCast, ext_cut]
    have hcd := chg_drew w1 NoS
    refine push_ok (x := ⟨2, cut t k e, m, k⟩) (own_of_chg h2 hcd fun _ _ x => x) (by omega) (by rw [size_drew]; omega) ?_
    intro a' c' w2 ho2 hc2
    refine ⟨_, _, _, rfl, ?_⟩
    have hb2 : w2.heap[r]? = some (.cells #[.string (bs t), .int .i64 (k : Int), .slice a n c] 47 (0, 0)) := hc2.blk h1.drew (by omega)
    refine some_i (set2 hb2 rfl ?_)
    intro w3 hb3 hc3 hs3
    refine some_i (set1 hb3 rfl ?_)
    intro w4 hb4 hc4 hs4
    have hc14 : Chg (fun b => r ≤ b) w1 w4 := (((hcd.mono fun _ _ x => x.elim).trans (hc2.mono fun b _ hb => by omega)).trans (hc3.mono fun b _ hb => by rw [show b = r from hb]; exact Nat.le_refl _)).trans (hc4.mono fun b _ hb => by rw [show b = r from hb]; exact Nat.le_refl _)
    refine ⟨hc14, ?_⟩
    unfold closedAt
    rw [if_neg hno]
    refine ⟨rfl, a', n + 1, c', hb4, ?_, by simp [h3], h4, by have := hc14.size; omega, by simp; omega⟩
    refine own_of_chg (own_of_chg ho2 hc3 fun b hb hx => ?_) hc4 fun b hb hx => ?_
    · have := (own_lt' ho2 hb).2; have : b = r := hx; omega
    · have := (own_lt' ho2 hb).2; have : b = r := hx; omega
  · have bad : e < t.length ∧ isAl (g t e) = true → Calls Tryd.prog 23 #[.pointer (some ⟨r, 0, none⟩), .int .i64 150, .int .i64 (e : Int)] w (endW (fun (v : Value) (w' : World) => ∃ (p : Option Addr), v = Value.pointer p ∧ Res w base r t k ws (closedAt t e m) (Value.pointer p) w') (fun _ _ => False)) := fun hy => by
      have := bad_res (ev := 0) h0 (code := 150) (R := Res w base r t k ws (closedAt t e m)) (E := fun _ _ => False) hk he fun v w' hr => by
        unfold closedAt
        rw [if_pos hy]
        exact hr
      exact this
    refine some_i ⟨_, h1.s, ?_⟩
    rw [bs_size]
    by_cases hl : e < t.length
    · rw [if_pos (by simp; omega)]
      refine some_i ⟨_, h1.s, by omega, by rw [bs_size]; omega, ?_⟩
      rw [g_at]
      refine Calls.then (letter_ok w _) ?_
      rintro v w1 ⟨rfl, rfl⟩
      refine ⟨_, rfl, ?_⟩
      refine ite_both (fun hx => ?_) (fun hx => ?_)
      · refine some_i ⟨_, h1.s, by omega, by rw [bs_size]; omega, ?_⟩
        rw [g_at]
        refine Calls.then (digit_ok w1 _) ?_
        rintro v w2 ⟨rfl, rfl⟩
        refine ⟨_, rfl, ?_⟩
        refine ite_both (fun hy => ?_) (fun hy => ?_)
        · exact bad ⟨hl, by simp [isAl, hy]⟩
        · exact ⟨(), trivial, rfl, fun hh => by have := hh.2; simp [isAl, hx] at this; exact hy this⟩
      · exact bad ⟨hl, by simp at hx; simp [isAl, hx]⟩
    · rw [if_neg (by simp; omega)]
      exact ⟨(), trivial, rfl, fun hh => hl hh.1⟩

/-! ### numbers -/
def dots (t : List UInt8) (i at_ m : Nat) : One :=
  if i < 4 then (if i = 0 ∨ isAt t at_ 46 = true then
    (let b := if i = 0 then at_ else at_ + 1
     let e := span isDig t b
     if cut t b e ≠ [] ∧ vals 10 (cut t b e) ≤ 255 ∧ ¬ (b + 1 < e ∧ isAt t b 48 = true) then dots t (i + 1) e (m * 256 + vals 10 (cut t b e)) else .bad 150 e)
    else .bad 150 at_) else closedAt t at_ m
termination_by 4 - i
def hexNum (t : List UInt8) (k : Nat) : One := if cut t (k + 2) (span isHex t (k + 2)) ≠ [] ∧ vals 16 (cut t (k + 2) (span isHex t (k + 2))) ≤ 18446744073709551615 ∧ ¬ k + 18 < span isHex t (k + 2) then closedAt t (span isHex t (k + 2)) (vals 16 (cut t (k + 2) (span isHex t (k + 2)))) else .bad 150 (span isHex t (k + 2))
def decNum (t : List UInt8) (k : Nat) : One := if cut t k (span isDig t k) ≠ [] ∧ vals 10 (cut t k (span isDig t k)) ≤ 18446744073709551615 then (if k + 1 < span isDig t k ∧ isAt t k 48 = true then .bad 150 (span isDig t k) else closedAt t (span isDig t k) (vals 10 (cut t k (span isDig t k)))) else .bad 3 (span isDig t k)
def numAt (t : List UInt8) (k : Nat) : One := match pairsAt t k with
  | some (m, e) => closedAt t e m
  | none => if isAt t k 48 = true ∧ isAt t (k + 1) 120 = true then hexNum t k else if isAt t (span isDig t k) 46 = true then dots t 0 k 0 else decNum t k
theorem cut_dig (p : Nat → Bool) {t : List UInt8} {k : Nat} (hk : k ≤ t.length) : ∀ j, j < (cut t k (span p t k)).length → p (g (cut t k (span p t k)) j) = true := fun j hj => by
  have hl := span_le p t k
  rw [cut_length _ _ _ hl.1 (hl.2 hk)] at hj
  rw [cut_get _ _ _ _ (by omega)]
  exact (span_all (p := p) (t := t) (k := k) (k + j) (by omega) (by omega)).2
theorem okD_dig {c : Nat} (h : isDig c = true) : okD 10 c = true := by unfold okD; rw [if_pos rfl]; exact h
theorem okD_hex' {c : Nat} (h : isHex c = true) : okD 16 c = true := by unfold okD; rw [if_neg (by decide)]; exact h
end Go.Proofs.YthifnahfcbgnoaaDoor.B
