import Derived.Test.YtpolbdakhfcilaaGreatDoorPaK
import Derived.Test.YtpolbdakhfcilaaGreatDoorPaL
/-
  parse: rows of queries; what words there can be.
-/
set_option maxRecDepth 100000
set_option linter.unusedVariables false
set_option linter.unusedSimpArgs false
namespace Go.Proofs.YtpolbdakhfcilaaGreatDoor.B
open Go Go.Proofs Go.Proofs.YtpolbdakhfcilaaGreatDoorEng Go.RowKit

/-! ### rows of queries -/
abbrev VQ := ByteArray × V4
def qcells (q : VQ) : List Value := [.string q.1, .int .i8 q.2.op, .int .i8 q.2.f, .int .u64 q.2.n, .slice q.2.b q.2.m q.2.c]
def flatQ (qs : List VQ) : List Value := qs.flatMap qcells
theorem flatQ_length : ∀ vs : List VQ, (flatQ vs).length = vs.length * 5
  | [] => rfl
  | v :: vs => by
    have := flatQ_length vs
    unfold flatQ at *
    rw [List.flatMap_cons, List.length_append, this, List.length_cons]
    simp [qcells]
    omega
theorem flatQ_append (a b : List VQ) : flatQ (a ++ b) = flatQ a ++ flatQ b := by simp [flatQ]
theorem flatQ_get : ∀ (vs : List VQ) (j i : Nat) (v : VQ), vs[j]? = some v → i < 5 → (flatQ vs)[j * 5 + i]? = (qcells v)[i]?
  | [], j, i, v, h, _ => by simp at h
  | x :: vs, 0, i, v, h, hi => by
    simp only [List.getElem?_cons_zero, Option.some.injEq] at h
    subst h
    unfold flatQ
    rw [List.flatMap_cons, List.getElem?_append_left (by simp [qcells]; omega)]
    congr 1
    omega
  | x :: vs, j + 1, i, v, h, hi => by
    simp only [List.getElem?_cons_succ] at h
    have := flatQ_get vs j i v h hi
    unfold flatQ at *
    rw [List.flatMap_cons, List.getElem?_append_right (by simp [qcells]; omega)]
    rw [← this]
    congr 1
    simp [qcells]
    omega
theorem flatQ_one (vs : List VQ) : ∀ u ∈ flatQ vs, u.oneCell' = true := fun u hu => by
  obtain ⟨v, _, hv⟩ := List.mem_flatMap.1 hu
  simp only [qcells, List.mem_cons, List.not_mem_nil, or_false] at hv
  rcases hv with rfl | rfl | rfl | rfl | rfl <;> rfl
inductive QO (w : World) (S : Nat → Prop) : List VQ → List Qu → Prop
  | nil : QO w S [] []
  | cons {s : ByteArray} {v : V4} {t : Tm} {vs : List VQ} {ts : List Qu} : v.own w S t → QO w S vs ts → QO w S ((s, v) :: vs) ((s, t) :: ts)
theorem QO.keep {w w' : World} {S S' T : Nat → Prop} (hc : Chg S' w w') (hs : ∀ b, S b → ¬ S' b) (ht : ∀ b, S b → T b) : ∀ {vs : List VQ} {ts : List Qu}, QO w S vs ts → QO w' T vs ts
  | _, _, .nil => .nil
  | _, _, .cons h r => .cons (h.keep hc hs ht) (QO.keep hc hs ht r)
theorem QO.keepN {w w' : World} {S : Nat → Prop} {vs : List VQ} {ts : List Qu} (h : QO w S vs ts) (hc : Chg NoS w w') : QO w' S vs ts := h.keep hc (fun _ _ x => x) (fun _ x => x)
theorem QO.mono {w : World} {S T : Nat → Prop} {vs : List VQ} {ts : List Qu} (h : QO w S vs ts) (ht : ∀ b, S b → T b) : QO w T vs ts := h.keep (Chg.refl NoS w) (fun _ _ x => x) ht
theorem QO.len {w : World} {S : Nat → Prop} : ∀ {vs : List VQ} {ts : List Qu}, QO w S vs ts → vs.length = ts.length
  | _, _, .nil => rfl
  | _, _, .cons h r => by simp [r.len]
theorem QO.append {w : World} {S : Nat → Prop} {vs us : List VQ} {ts ss : List Qu} (h : QO w S vs ts) (k : QO w S us ss) : QO w S (vs ++ us) (ts ++ ss) := by
  induction h with
  | nil => exact k
  | cons h r ih => exact .cons h ih
theorem QO.get {w : World} {S : Nat → Prop} : ∀ {vs : List VQ} {ts : List Qu}, QO w S vs ts → ∀ (j : Nat) (t : Qu), ts[j]? = some t → ∃ v, vs[j]? = some (t.1, v) ∧ v.own w S t.2
  | _, _, .nil, j, t, h => by simp at h
  | _, _, .cons h r, 0, t, ht => by
    simp only [List.getElem?_cons_zero, Option.some.injEq] at ht
    subst ht
    exact ⟨_, rfl, h⟩
  | _, _, .cons h r, j + 1, t, ht => by
    obtain ⟨v, h1, h2⟩ := r.get j t (by simpa using ht)
    exact ⟨v, by simpa using h1, h2⟩
theorem readsQ {w : World} {a : Option Addr} {us : List VQ} (h : Reads w a (flatQ us)) {j : Nat} {u : VQ} (hj : us[j]? = some u) : ∃ A, a = some A ∧ w.cell? (addK (addK A (j * 5)) 0) = some (.string u.1) ∧ w.cell? (addK (addK A (j * 5)) 1) = some (.int .i8 u.2.op) ∧ w.cell? (addK (addK A (j * 5)) 2) = some (.int .i8 u.2.f) ∧ w.cell? (addK (addK A (j * 5)) 3) = some (.int .u64 u.2.n) ∧ w.cell? (addK (addK A (j * 5)) 4) = some (.slice u.2.b u.2.m u.2.c) := by
  have g : ∀ i v, (qcells u)[i]? = some v → i < 5 → ∃ A, a = some A ∧ w.cell? (addK A (j * 5 + i)) = some v := fun i v hv hi => h _ _ (by rw [flatQ_get us j i u hj hi]; exact hv)
  obtain ⟨A, rfl, g0⟩ := g 0 _ rfl (by omega)
  obtain ⟨A1, e1, g1⟩ := g 1 _ rfl (by omega)
  obtain ⟨A2, e2, g2⟩ := g 2 _ rfl (by omega)
  obtain ⟨A3, e3, g3⟩ := g 3 _ rfl (by omega)
  obtain ⟨A4, e4, g4⟩ := g 4 _ rfl (by omega)
  cases e1
  cases e2
  cases e3
  cases e4
  exact ⟨A, rfl, by rw [addK_addK]; exact g0, by rw [addK_addK]; exact g1, by rw [addK_addK]; exact g2, by rw [addK_addK]; exact g3, by rw [addK_addK]; exact g4⟩
/-- A row of queries is what the calls ask for. -/
theorem QO.at {w : World} {S : Nat → Prop} {us : List VQ} {qs : List Qu} {a : Option Addr} (h : QO w S us qs) (hr : Reads w a (flatQ us)) : QsAt w qs a := fun j q hq => by
  obtain ⟨v, h1, h2⟩ := h.get j q hq
  obtain ⟨A, rfl, g0, g1, g2, g3, g4⟩ := readsQ hr h1
  exact ⟨A, rfl, g0, v.op, v.f, v.n, v.b, v.m, v.c, by rw [addK_addK (addK A (j * 5))]; exact g1, by rw [addK_addK (addK A (j * 5))]; exact g2, by rw [addK_addK (addK A (j * 5))]; exact g3, by rw [addK_addK (addK A (j * 5))]; exact g4, h2.is⟩
theorem info40 : (Tryz.prog.info? 41).map (fun i => (i.zero, i.size, i.bytes)) = some (some (.agg #[.string { data := #[] }, .int .i8 0, .int .i8 0, .int .u64 0, .slice none 0 0]), 5, 56) := by kernel_rfl
/-- append to a row of queries of the call's own -/
theorem queries_append {w : World} {base n m c : Nat} {v : Value} {a : Option Addr} {vs us : List VQ} {K : Value → World → Prop} {E : PanW}
    (ho : w.ownsRow base 41 5 v n (flatQ vs)) (hm : us.length = m) (hr : Reads w a (flatQ us)) (h0 : a = none → m = 0) (hb : n + m ≤ 1099511627776) (hbase : base ≤ w.heap.size)
    (h : ∀ a' c' w', w'.ownsRow base 41 5 (.slice a' (n + m) c') (n + m) (flatQ (vs ++ us)) → Chg (fun k => v.ownBlock = some k) w w' → (∀ k, (Value.slice a' (n + m) c').ownBlock = some k → v.ownBlock = some k ∨ w.heap.size ≤ k) → K (.slice a' (n + m) c') w') :
    runV Tryz.prog (Builtin.append_ #[27, 27] 27 #[v, .slice a m c]) w K E := by
  obtain ⟨i, hi, hz, hs, hby⟩ := info_open' info40
  refine append_own (base := base) (n := n) (m := m) Tryz.underlying27 hi hz hs rfl ho (src_slice Tryz.underlying27 (by rw [flatQ_length, hm]) hr h0 (flatQ_one us)) (by rw [hby]; omega) (by omega) hbase ?_
  intro v' w' ho' hc hb1 hb2
  obtain ⟨a', c', rfl, _, _⟩ := own_form ho'
  refine h a' c' w' (by rw [flatQ_append]; exact ho') hc fun k hk => ?_
  rcases hb1 with e | e
  · exact .inl (e ▸ hk)
  · rw [e] at hk; exact .inr (by have := Option.some.inj hk; omega)
theorem wcells_at {ws : List Wd} {i : Nat} {x : Wd} (h : ws[i]? = some x) : (wcells ws)[i * 4]? = some (.int .i8 (x.kind : Int)) ∧ (wcells ws)[i * 4 + 1]? = some (.string (bs x.txt)) ∧ (wcells ws)[i * 4 + 2]? = some (.int .u64 (x.num : Int)) ∧ (wcells ws)[i * 4 + 3]? = some (.int .i64 (x.pos : Int)) := by
  induction ws generalizing i with
  | nil => simp at h
  | cons y r ih =>
    cases i with
    | zero =>
      simp only [List.getElem?_cons_zero, Option.some.injEq] at h
      subst h
      exact ⟨rfl, rfl, rfl, rfl⟩
    | succ i =>
      simp only [List.getElem?_cons_succ] at h
      have := ih h
      have e : wcells (y :: r) = [.int .i8 (y.kind : Int), .string (bs y.txt), .int .u64 (y.num : Int), .int .i64 (y.pos : Int)] ++ wcells r := rfl
      rw [e]
      refine ⟨?_, ?_, ?_, ?_⟩
      · rw [List.getElem?_append_right (by simp; omega)]; simpa [Nat.succ_mul] using this.1
      · rw [List.getElem?_append_right (by simp; omega)]; simpa [Nat.succ_mul, show (i + 1) * 4 + 1 - 4 = i * 4 + 1 by omega] using this.2.1
      · rw [List.getElem?_append_right (by simp; omega)]; simpa [Nat.succ_mul, show (i + 1) * 4 + 2 - 4 = i * 4 + 2 by omega] using this.2.2.1
      · rw [List.getElem?_append_right (by simp; omega)]; simpa [Nat.succ_mul, show (i + 1) * 4 + 3 - 4 = i * 4 + 3 by omega] using this.2.2.2
/-- the words of a row, read -/
theorem row_word {w : World} {base n c : Nat} {a : Option Addr} {ws : List Wd} (ho : w.ownsRow base 71 4 (.slice a n c) n (wcells ws)) {i : Nat} {x : Wd} (h : ws[i]? = some x) : ∃ A, a = some A ∧ w.cell? (addK (addK A (i * 4)) 0) = some (.int .i8 (x.kind : Int)) ∧ w.cell? (addK (addK A (i * 4)) 1) = some (.string (bs x.txt)) ∧ w.cell? (addK (addK A (i * 4)) 2) = some (.int .u64 (x.num : Int)) ∧ w.cell? (addK (addK A (i * 4)) 3) = some (.int .i64 (x.pos : Int)) := by
  obtain ⟨h0, h1, h2, h3⟩ := wcells_at h
  obtain ⟨A, rfl, g0⟩ := own_cell ho h0
  obtain ⟨_, e, g1⟩ := own_cell ho h1
  cases e
  obtain ⟨_, e, g2⟩ := own_cell ho h2
  cases e
  obtain ⟨_, e, g3⟩ := own_cell ho h3
  cases e
  refine ⟨A, rfl, ?_, ?_, ?_, ?_⟩ <;> rw [addK_addK]
  · exact g0
  · exact g1
  · exact g2
  · exact g3
theorem dots_num {t : List UInt8} : ∀ (d i at_ m kd j n : Nat), 4 - i = d → i ≤ 4 → m < 256 ^ i → dots t i at_ m = .ok kd j n → n < 256 ^ 4 := by
  intro d
  induction d with
  | zero =>
    intro i at_ m kd j n hd hi4 hm h
    rw [dots, if_neg (by omega)] at h
    obtain ⟨_, _, rfl⟩ := closed_ok h
    have : i = 4 := by omega
    subst this
    exact hm
  | succ d ih =>
    intro i at_ m kd j n hd hi4 hm h
    have hi : i < 4 := by omega
    by_cases hc : i = 0 ∨ isAt t at_ 46 = true
    · generalize hb : (if i = 0 then at_ else at_ + 1) = b
      by_cases hn : cut t b (span isDig t b) ≠ [] ∧ vals 10 (cut t b (span isDig t b)) ≤ 255 ∧ ¬ (b + 1 < span isDig t b ∧ isAt t b 48 = true)
      · rw [dots_go hi hb.symm rfl hc hn] at h
        refine ih (i + 1) _ _ kd j n (by omega) (by omega) ?_ h
        have h2 := hn.2.1
        rw [Nat.pow_succ]
        generalize 256 ^ i = p at hm ⊢
        omega
      · rw [dots, if_pos hi, if_pos hc] at h
        dsimp only at h
        rw [hb, if_neg hn] at h
        cases h
    · rw [dots, if_pos hi, if_neg hc] at h
      cases h
theorem pr_num {t : List UInt8} : ∀ (d i at_ n m e : Nat), 6 - i = d → i ≤ 6 → n < 256 ^ i → pr t i at_ n = some (m, e) → m < 256 ^ 6 := by
  intro d
  induction d with
  | zero =>
    intro i at_ n m e hd hi6 hn h
    rw [pr, if_neg (by omega)] at h
    injection h with h
    injection h with h1 h2
    have : i = 6 := by omega
    subst this
    omega
  | succ d ih =>
    intro i at_ n m e hd hi6 hn h
    have hi : i < 6 := by omega
    by_cases hc : (i = 0 ∨ isAt t at_ 58 = true) ∧ (if i = 0 then at_ else at_ + 1) + 2 ≤ t.length ∧ isHex (g t (if i = 0 then at_ else at_ + 1)) = true ∧ isHex (g t ((if i = 0 then at_ else at_ + 1) + 1)) = true
    · rw [pr_go hi rfl hc.1 hc.2.1 hc.2.2.1 hc.2.2.2] at h
      refine ih (i + 1) _ _ m e (by omega) (by omega) ?_ h
      have h1 := hv_lt hc.2.2.1
      have h2 := hv_lt hc.2.2.2
      rw [Nat.pow_succ]
      generalize 256 ^ i = p at hn ⊢
      omega
    · rw [pr_no hi rfl hc] at h
      cases h
theorem num_num {t : List UInt8} {k kd j n : Nat} (h : numAt t k = .ok kd j n) : n ≤ 18446744073709551615 := by
  unfold numAt at h
  split at h
  · rename_i m e hp
    obtain ⟨_, _, rfl⟩ := closed_ok h
    have := pr_num 6 0 k 0 n e rfl (by omega) (by decide) hp
    omega
  · split at h
    · unfold hexNum at h
      split at h
      · rename_i hn
        obtain ⟨_, _, rfl⟩ := closed_ok h
        exact hn.2.1
      · cases h
    · split at h
      · have := dots_num 4 0 k 0 kd j n rfl (by omega) (by decide) h
        omega
      · unfold decNum at h
        split at h
        · rename_i hn
          split at h
          · cases h
          · obtain ⟨_, _, rfl⟩ := closed_ok h
            exact hn.2
        · cases h
theorem one_num' {t : List UInt8} {k kd j n : Nat} (h : oneAt t k = .ok kd j n) : n ≤ 18446744073709551615 := by
  unfold oneAt at h
  split at h
  · exact num_num h
  · split at h
    · split at h
      · cases h
      · injection h with h1 h2 h3; omega
    · split at h
      · split at h
        · injection h with h1 h2 h3; omega
        · cases h
      · split at h
        · injection h with h1 h2 h3; omega
        · cases h
theorem scan_good (t : List UInt8) (k : Nat) (ws0 ws : List Wd) (h : scan t k ws0 = .inl ws) : ∃ r, ws = ws0 ++ r ∧ r.length ≤ t.length - k ∧ ∀ x ∈ r, x.num ≤ 18446744073709551615 ∧ x.kind ≠ 0 := by
  by_cases hlt : sk t false k < t.length
  · cases ho : oneAt t (sk t false k) with
    | bad e j => rw [scan_bad hlt ho] at h; cases h
    | ok kd j m =>
      rw [scan_go hlt ho] at h
      have hle := one_le ho hlt
      have hsk := (sk_le t false k).1
      obtain ⟨r, e, hl, hg⟩ := scan_good t j _ ws h
      refine ⟨⟨kd, cut t (sk t false k) j, m, sk t false k⟩ :: r, by rw [e]; simp, by simp only [List.length_cons]; omega, fun x hx => ?_⟩
      rcases List.mem_cons.1 hx with rfl | hx
      · exact ⟨one_num' ho, by dsimp only; omega⟩
      · exact hg x hx
  · rw [scan_end hlt] at h
    injection h with h
    exact ⟨[], by simp [h], by simp, by simp⟩
termination_by t.length - k
decreasing_by
  have := (sk_le t false k).1
  have := one_le (by assumption) (by assumption)
  omega
/-- the words of a text: names, numbers, signs, and the end -/
theorem allR_good {t : List UInt8} {ws : List Wd} (h : allR t = .inl ws) : t.length ≤ 65536 ∧ ∃ r, ws = r ++ [⟨0, [], 0, t.length⟩] ∧ r.length ≤ t.length ∧ (∀ x ∈ r, x.num ≤ 18446744073709551615 ∧ x.kind ≠ 0) ∧ scan t 0 [] = .inl r := by
  unfold allR at h
  split at h
  · cases h
  · rename_i hb
    split at h
    · rename_i ws' hs
      injection h with h
      obtain ⟨r, e, hl, hg⟩ := scan_good t 0 [] ws' hs
      simp only [List.nil_append] at e
      subst e
      exact ⟨by omega, _, h.symm, by omega, hg, hs⟩
    · cases h
end Go.Proofs.YtpolbdakhfcilaaGreatDoor.B

/-
  parse: Policy.
-/
set_option maxRecDepth 100000
set_option linter.unusedVariables false
set_option linter.unusedSimpArgs false
namespace Go.Proofs.YtpolbdakhfcilaaGreatDoor.B
open Go Go.Proofs Go.Proofs.YtpolbdakhfcilaaGreatDoorEng Go.RowKit

def cntW : List UInt8 := [99, 111, 117, 110, 116]
/-- queries from a place on: where they end, and whether well -/
inductive QsR (ws : List Wd) : Nat → List (List UInt8 × Tm) → Nat → Bool → Prop where
  | stop {i : Nat} : isW ws i 1 cntW = false → QsR ws i [] i true
  | bad {i j : Nat} : isW ws i 1 cntW = true → Qa ws (i + 1) (.bad j) → QsR ws i [] j false
  | go {i j e : Nat} {x : Wd} {t : Tm} {l : List (List UInt8 × Tm)} {b : Bool} : isW ws i 1 cntW = true → ws[i + 1]? = some x → Qa ws (i + 1) (.ok t j) → QsR ws j l e b → QsR ws i ((x.txt, t) :: l) e b
/-- what Policy answers -/
inductive Fo where
  | ok (main : Tm) (qs : List (List UInt8 × Tm))
  | fault (code pos : Nat) (txt : List UInt8)
def endS (t : Tm) (l : List (List UInt8 × Tm)) (x : Wd) (b : Bool) : Fo := if b = true ∧ x.kind = 0 then (if smallS (t :: l.map (·.2)) = true then .ok t l else .fault 200 0 []) else .fault 160 x.pos x.txt
def FileP (ws : List Wd) (o : Fo) : Prop :=
  (∃ j x, Pa ws (.row .pol) 0 (.bad j) ∧ ws[j]? = some x ∧ o = .fault 160 x.pos x.txt) ∨
  ∃ t j l e b x, Pa ws (.row .pol) 0 (.ok t j) ∧ QsR ws j l e b ∧ ws[e]? = some x ∧ o = endS t l x b
def PolP (t : List UInt8) (o : Fo) : Prop := match allR t with
  | .inr x => o = .fault x.1 x.2.1 x.2.2
  | .inl ws => FileP ws o
abbrev zeroP : Array Value := #[.int .i8 0, .int .i8 0, .int .u64 0, .slice none 0 0, .slice none 0 0]
def bsQ (l : List (List UInt8 × Tm)) : List Qu := l.map fun q => (bs q.1, q.2)
def RetF (w : World) (o : Fo) (v : Value) (w' : World) : Prop := Chg NoS w w' ∧ match o with
  | .ok main qs => ∃ (u : V4) (qa : Option Addr) (c : Nat), v = .tuple #[.agg (parr u qa qs.length c), .nilIface] ∧ u.is w' main ∧ QsAt w' (bsQ qs) qa ∧ qs.length ≤ 70000
  | .fault code pos txt => ∃ p, v = .tuple #[.agg zeroP, .iface 61 (.pointer (some ⟨p, 0, none⟩))] ∧ w.heap.size ≤ p ∧ w'.heap[p]? = some (.cells #[.int .i64 (code : Int), .int .i64 (pos : Int), .string (bs txt)] 74 (0, 0))
theorem load30 (b : Nat) (w : World) (K : Value → Prop) : loadW Tryz.prog 29 (.pointer (some ⟨b, 0, none⟩)) w K = (∃ x, w.cell? (addK ⟨b, 0, none⟩ 0) = some (.int .i8 x) ∧ ∃ y, w.cell? (addK ⟨b, 0, none⟩ 1) = some (.int .i8 y) ∧ ∃ z, w.cell? (addK ⟨b, 0, none⟩ 2) = some (.int .u64 z) ∧ ∃ a n c, w.cell? (addK ⟨b, 0, none⟩ 3) = some (.slice a n c) ∧ ∃ a2 n2 c2, w.cell? (addK ⟨b, 0, none⟩ 4) = some (.slice a2 n2 c2) ∧ K (.agg #[.int .i8 x, .int .i8 y, .int .u64 z, .slice a n c, .slice a2 n2 c2])) := by kernel_rfl
theorem load32 (b : Nat) (w : World) (K : Value → Prop) : loadW Tryz.prog 36 (.pointer (some ⟨b, 0, none⟩)) w K = (∃ v, w.cell? ⟨b, 0, none⟩ = some v ∧ K v) := by kernel_rfl
abbrev RSp (pb eb : Nat) : List RS := [RS.cell (.pointer (some ⟨pb, 0, none⟩)) 29, RS.cell (.pointer (some ⟨eb, 0, none⟩)) 36]
theorem res_ok {w : World} {pb eb : Nat} {u : V4} {qa : Option Addr} {qn qc : Nat} {v : Value} {K : List Value → Prop} (hp : w.heap[pb]? = some (.cells (parr u qa qn qc) 29 (0, 0))) (he : w.heap[eb]? = some (.cells #[v] 36 (0, 0))) (hK : K [.agg (parr u qa qn qc), v]) : resV Tryz.prog (RSp pb eb) w K := by
  unfold resV resV resV
  rw [load30]
  have l : ∀ j x, (parr u qa qn qc)[j]? = some x → w.cell? (addK ⟨pb, 0, none⟩ j) = some x := fun j x hx => by rw [addK_lit, Nat.zero_add, cell_blk hp]; exact hx
  refine ⟨_, l 0 _ rfl, _, l 1 _ rfl, _, l 2 _ rfl, _, _, _, l 3 _ rfl, _, _, _, l 4 _ rfl, ?_⟩
  rw [load32]
  exact ⟨v, by rw [cell_blk he]; rfl, hK⟩
theorem enter14 (l : Array Value) (w : World) : (callFunc 21 l).run Tryz.prog w = .ok (.enter 21 l) w := by
  simp [go_sem]
theorem leave_idle {pb eb : Nat} {rs : List RS} {R : Value → World → Prop} {E : PanW} {w : World} (h : resV Tryz.prog rs w fun l => R (oneOrTuple l) w) : leaveW Tryz.prog rs R E [(21, [.pointer (some ⟨pb, 0, none⟩), .pointer (some ⟨eb, 0, none⟩)])] .returning w := by
  refine ⟨by simp, fun w => enter14 _ w, ?_⟩
  refine (catch_idle _ _ w).mono ?_
  rintro e u' w' ⟨rfl, rfl, rfl⟩
  exact h
abbrev u0 : V4 := ⟨0, 0, 0, none, 0, 0⟩
/-- the reader's fault is laid, and Policy returns -/
theorem leave_fault {w w1 : World} {t : List UInt8} {pb eb p : Nat} {x : Wd} {c0 c1 c2 c3 c4 y : Value} {R : Value → World → Prop} {E : PanW} (hR : ∀ v w', (∃ o, PolP t o ∧ RetF w o v w') → R v w') (hP : PolP t (.fault 160 x.pos x.txt))
    (hc : Chg NoS w w1) (hp : w1.heap[pb]? = some (.cells #[c0, c1, c2, c3, c4] 29 (0, 0))) (he : w1.heap[eb]? = some (.cells #[y] 36 (0, 0))) (hb : w.heap.size ≤ pb) (hb2 : w.heap.size ≤ eb) (hne : pb ≠ eb)
    (hf : w1.heap[p]? = some (.cells #[.int .i64 160, .int .i64 (x.pos : Int), .string (bs x.txt)] 74 (0, 0))) (hpw : w.heap.size ≤ p) (hn1 : p ≠ pb) (hn2 : p ≠ eb) :
    leaveW Tryz.prog (RSp pb eb) R E [(21, [.pointer (some ⟨pb, 0, none⟩), .pointer (some ⟨eb, 0, none⟩)])] (.panicking [{ v := .iface 61 (.pointer (some ⟨p, 0, none⟩)), recovered := false }]) w1 := by
  refine ⟨by simp, fun w => enter14 _ w, ?_⟩
  refine (catch_fault pb eb ⟨p, 0, none⟩ w1 c0 c1 c2 c3 c4 y hp he hne).mono ?_
  rintro e u' w' ⟨rfl, rfl, h1, h2, h3⟩
  refine res_ok (u := u0) h1 h2 ?_
  refine hR _ _ ⟨_, hP, hc.trans2 h3 fun k hk e => by rcases e with e | e <;> omega, p, rfl, hpw, ?_⟩
  exact h3.blk hf fun e => by rcases e with e | e; exact hn1 e; exact hn2 e
end Go.Proofs.YtpolbdakhfcilaaGreatDoor.B

/-
  parse: Policy: the walk.
-/
set_option maxRecDepth 100000
set_option linter.unusedVariables false
set_option linter.unusedSimpArgs false
namespace Go.Proofs.YtpolbdakhfcilaaGreatDoor.B
open Go Go.Proofs Go.Proofs.YtpolbdakhfcilaaGreatDoorEng Go.RowKit

theorem Rdr.keepG {w w' : World} {q : Rp} {ws : List Wd} {i g : Nat} (h : Rdr w q ws i) (hc : Chg (OnlyB g) w w') (h1 : q.b ≠ g) (h2 : q.m ≠ g) (h3 : ∀ A, q.a = some A → A.block ≠ g) : Rdr w' q ws i := by
  refine ⟨hc.blk h.blk h1, { row := fun k x hx => ?_, len := h.st.len, keys := hc.blk h.st.keys h2, ne := h.st.ne, small := h.st.small, more := h.st.more, num := h.st.num }, h.lt⟩
  obtain ⟨A, e, hne, g0, g1, g2, g3⟩ := h.st.row k x hx
  have hb : ∀ j, ¬ OnlyB g (addK (addK A (k * 4)) j).block := fun j => by rw [addK_block, addK_block]; exact h3 A e
  exact ⟨A, e, hne, cell_keepS (S := NoS) g0 hc (hb 0), cell_keepS (S := NoS) g1 hc (hb 1), cell_keepS (S := NoS) g2 hc (hb 2), cell_keepS (S := NoS) g3 hc (hb 3)⟩
def LoopI (w : World) (q : Rp) (ws : List Wd) (j0 : Nat) (main : Tm) (pb eb : Nat) (w6 : World) : Prop :=
  ∃ (j : Nat) (l : List (List UInt8 × Tm)) (us : List VQ) (u : V4) (qa : Option Addr) (qc : Nat), Rdr w6 q ws j ∧ (∀ l' e b, QsR ws j l' e b → QsR ws j0 (l ++ l') e b) ∧ w6.heap[pb]? = some (.cells (parr u qa l.length qc) 29 (0, 0)) ∧ w6.heap[eb]? = some (.cells #[.nilIface] 36 (0, 0)) ∧
    w6.ownsRow (q.b + 1) 41 5 (.slice qa l.length qc) l.length (flatQ us) ∧ QO w6 (fun k => q.b < k ∧ k < w6.heap.size ∧ (Value.slice qa l.length qc).ownBlock ≠ some k) us (bsQ l) ∧ u.own w6 (fun k => q.b < k ∧ k < w6.heap.size ∧ (Value.slice qa l.length qc).ownBlock ≠ some k) main ∧ Chg NoS w w6 ∧ l.length ≤ j
theorem bsQ_len (l : List (List UInt8 × Tm)) : (bsQ l).length = l.length := by simp [bsQ]
theorem bsQ_preds (l : List (List UInt8 × Tm)) : preds (bsQ l) = l.map (·.2) := by simp [preds, bsQ]
theorem Policy_ok (w : World) (t : List UInt8) (hE : Errs w) : Calls Tryz.prog 9 #[.string (bs t)] w (endW (fun v w' => ∃ o, PolP t o ∧ RetF w o v w') (fun _ _ => False)) := by
  refine F9_calls _ ?_
  delta F9
  have cA := chg_alloc w (.cells #[.int .i8 0, .int .i8 0, .int .u64 0, .slice none 0 0, .slice none 0 0] 29) NoS
  have bA := blk_alloc w (.cells #[.int .i8 0, .int .i8 0, .int .u64 0, .slice none 0 0, .slice none 0 0] 29)
  have zA := size_alloc w (.cells #[.int .i8 0, .int .i8 0, .int .u64 0, .slice none 0 0, .slice none 0 0] 29)
  generalize w.alloc (.cells #[.int .i8 0, .int .i8 0, .int .u64 0, .slice none 0 0, .slice none 0 0] 29) = wA at cA bA zA ⊢
  have cB := chg_alloc wA (.cells #[.nilIface] 36) NoS
  have bB := blk_alloc wA (.cells #[.nilIface] 36)
  have zB := size_alloc wA (.cells #[.nilIface] 36)
  generalize wA.alloc (.cells #[.nilIface] 36) = wB at cB bB zB ⊢
  have cwB := cA.trans cB
  refine Calls.then (All_ok wB t (hE.chg cwB)) ?_
  rintro v w1 ⟨c1, hv⟩
  have p1 := c1.blk (cB.blk bA fun x => x) fun x => x
  have e1 := c1.blk bB fun x => x
  have s1 := c1.size
  have hne : w.heap.size ≠ wA.heap.size := by omega
  cases hall : allR t with
  | inr x =>
    rw [hall] at hv
    obtain ⟨b, rfl, hb0, hb⟩ := hv
    refine ⟨_, rfl, _, _, rfl, _, _, _, rfl, _, _, rfl, rfl, ?_⟩
    refine setW_blk (i := 0) e1 (by simp) rfl fun w2 e2 c2 z2 => ?_
    have p2 : w2.drew.heap[w.heap.size]? = _ := c2.blk p1 hne
    have e2d : w2.drew.heap[wA.heap.size]? = _ := e2
    refine ⟨_, by rw [cell_blk e2]; rfl, .inr ⟨_, _, rfl⟩, ?_⟩
    rw [if_pos (by rfl)]
    refine ⟨OnlyB w.heap.size, fun e => hne (Eq.symm e), _, by rw [cell_blk e2d]; rfl, ?_⟩
    refine (sets_blk (vs := [.int .i8 0, .int .i8 0, .int .u64 0, .slice none 0 0, .slice none 0 0]) p2 rfl (by simp [oneC]) fun w3 b3 c3 z3 => ?_ : setsW _ _ _ _ _)
    refine ⟨⟨c3.size, fun b hb hs => c3.block b hb hs⟩, ?_⟩
    refine setW_blk (i := 0) (c3.blk e2d fun e => hne (Eq.symm e)) (by simp) rfl fun w4 e4 c4 z4 => ?_
    unfold leaveW
    have c24 : Chg (fun k => k = w.heap.size ∨ k = wA.heap.size) w1 w4 := ((c2.mono fun k _ e => .inr e).trans ((chg_drew w2 _).trans (c3.mono fun k _ e => .inl e))).trans (c4.mono fun k _ e => .inr e)
    refine res_ok (u := u0) (c4.blk b3 hne) (by simpa using e4) ?_
    refine ⟨.fault x.1 x.2.1 x.2.2, by unfold PolP; rw [hall], (cwB.trans c1).trans2 c24 fun k hk e => by rcases e with e | e <;> omega, b, rfl, by omega, c24.blk hb fun e => by rcases e with e | e <;> omega⟩
  | inl ws =>
    rw [hall] at hv
    obtain ⟨a, n, c, rfl, ho, hn⟩ := hv
    obtain ⟨htl, r, hr, hrl, hrn, _⟩ := allR_good hall
    have hPF : ∀ o, FileP ws o → PolP t o := fun o h => by unfold PolP; rw [hall]; exact h
    refine ⟨_, rfl, _, _, rfl, _, _, _, rfl, _, _, rfl, rfl, ?_⟩
    refine setW_blk (i := 0) e1 (by simp) rfl fun w2 e2 c2 z2 => ?_
    have p2 := c2.blk p1 hne
    have e2' : w2.heap[wA.heap.size]? = some (.cells #[.nilIface] 36 (0, 0)) := by simpa using e2
    have cw2 : Chg NoS w w2 := (cwB.trans c1).trans2 c2 fun k hk e => by have : k = wA.heap.size := e; omega
    refine ⟨_, by rw [cell_blk e2']; rfl, .inl rfl, ?_⟩
    rw [if_neg (by simp [isNilI])]
    refine Calls.then (keys_ok w2) ?_
    rintro v w3 ⟨m, rfl, hm0, hm, c3⟩
    refine ⟨_, rfl, ?_⟩
    have s3 := c3.size
    have hm3 := lt_of_blk hm
    have p3 := c3.blk p2 fun x => x
    have e3 := c3.blk e2' fun x => x
    have c4 := chg_alloc w3 (.cells #[.slice a n c, .int .i64 0, .map (some m)] 66) NoS
    have b4 := blk_alloc w3 (.cells #[.slice a n c, .int .i64 0, .map (some m)] 66)
    have z4 := size_alloc w3 (.cells #[.slice a n c, .int .i64 0, .map (some m)] 66)
    generalize w3.alloc (.cells #[.slice a n c, .int .i64 0, .map (some m)] 66) = w4 at c4 b4 z4 ⊢
    have ho4 : w3.ownsRow wB.heap.size 71 4 (.slice a n c) n (wcells ws) := own_of_chg ho (c2.trans (toB c3 _)) fun k hk e => by
      have := (own_ge ho hk).1
      have : k = wA.heap.size := e
      omega
    generalize hq : (⟨w3.heap.size, a, n, c, m⟩ : Rp) = q at *
    have hqb : q.b = w3.heap.size := by rw [← hq]
    have hwlen : ws.length ≤ 70000 := by rw [hr, List.length_append]; simp; omega
    have h4 : Rdr w4 q ws 0 := by
      subst hq
      refine ⟨b4, { row := fun k x hx => ?_, len := hn, keys := c4.blk hm fun x => x, ne := by show m ≠ w3.heap.size; omega, small := hwlen, more := fun k x hx h0 => ?_, num := fun k x hx => ?_ }, by rw [hr]; simp⟩
      · obtain ⟨A, e, g0, g1, g2, g3⟩ := row_word ho4 hx
        have hlt : A.block < w3.heap.size := by
          rcases Nat.lt_or_ge (addK (addK A (k * 4)) 0).block w3.heap.size with h' | h'
          · rw [addK_block, addK_block] at h'; exact h'
          · simp [World.cell?, Array.getElem?_eq_none h'] at g0
        exact ⟨A, e, by show A.block ≠ w3.heap.size; omega, cell_keep g0 c4, cell_keep g1 c4, cell_keep g2 c4, cell_keep g3 c4⟩
      · rcases Nat.lt_or_ge k r.length with h' | h'
        · rw [hr]; simp; omega
        · rw [hr, List.getElem?_append_right h'] at hx
          rcases Nat.eq_zero_or_pos (k - r.length) with h2 | h2
          · rw [h2] at hx
            simp at hx
            subst hx
            exact absurd rfl h0
          · rw [List.getElem?_eq_none (by simp; omega)] at hx
            cases hx
      · rcases Nat.lt_or_ge k r.length with h' | h'
        · rw [hr, List.getElem?_append_left h'] at hx
          exact (hrn x (List.mem_of_getElem? hx)).1
        · rw [hr, List.getElem?_append_right h'] at hx
          rcases Nat.eq_zero_or_pos (k - r.length) with h2 | h2
          · rw [h2] at hx
            simp at hx
            subst hx
            exact Nat.zero_le _
          · rw [List.getElem?_eq_none (by simp; omega)] at hx
            cases hx
    have cw4 : Chg NoS w w4 := (cw2.trans c3).trans c4
    have p4 := c4.blk p3 fun x => x
    have e4 := c4.blk e3 fun x => x
    have s2 := c2.size
    have hpq : w.heap.size ≠ q.b := by omega
    have heq : wA.heap.size ≠ q.b := by omega
    have s2x := c2.size
    have hptr : (⟨w3.heap.size, 0, none⟩ : Addr) = ⟨q.b, 0, none⟩ := by rw [hqb]
    rw [hptr]
    have hga : ∀ A, q.a = some A → wB.heap.size ≤ A.block := fun A hA => by
      subst hq
      have hA' : a = some A := hA
      subst hA'
      exact (own_ge ho4 (k := A.block) rfl).1
    have hgm : w2.heap.size ≤ q.m := by subst hq; exact hm0
    have keepP : ∀ {wx wy : World} {j : Nat}, Rdr wx q ws j → Chg (OnlyB w.heap.size) wx wy → Rdr wy q ws j := fun {wx wy j} hx hc => hx.keepG hc hpq.symm (by omega) fun A hA => by have := hga A hA; omega
    clear ho4 ho b4 hptr p1 e1 p2 e2 e2' p3 e3 bA bB
    -- how a fault ends it
    have fin : ∀ {wx wy : World} {j : Nat} {ch : List PanicEntry} {d0 d1 d2 d3 d4 : Value}, Bad wx q ws j ch wy → Chg NoS w wx → q.b < wx.heap.size → wx.heap[w.heap.size]? = some (.cells #[d0, d1, d2, d3, d4] 29 (0, 0)) → wx.heap[wA.heap.size]? = some (.cells #[.nilIface] 36 (0, 0)) → (∀ x, ws[j]? = some x → FileP ws (.fault 160 x.pos x.txt)) →
        leaveW Tryz.prog (RSp w.heap.size wA.heap.size) (fun v w' => ∃ o, PolP t o ∧ RetF w o v w') (fun _ _ => False) [(21, [.pointer (some ⟨w.heap.size, 0, none⟩), .pointer (some ⟨wA.heap.size, 0, none⟩)])] (.panicking ch) wy := by
      rintro wx wy j ch d0 d1 d2 d3 d4 ⟨p, x, hx, rfl, hp, hf, hc⟩ hwx hsz hpx hex hfl
      have hz := hwx.size
      exact leave_fault (t := t) (fun v w' h => h) (hPF _ (hfl x hx)) (hwx.trans2 hc fun k hk e => by have : k = q.b := e; omega) (hc.blk hpx hpq) (hc.blk hex heq) (Nat.le_refl _) (by omega) hne hf (by omega) (by omega) (by omega)
    refine Calls.thenP ((levels _ 0 rfl).1 w4 h4) ?_ fun ch w' ⟨j, hP, hb⟩ => fin hb cw4 (by omega) p4 e4 fun x hx => .inl ⟨j, x, hP, hx, rfl⟩
    rintro v w5 ⟨main, j0, u, hP, rfl, hu, h5, c5⟩
    have s5 := c5.size
    have p5 := c5.blk p4 hpq
    have e5 := c5.blk e4 heq
    have cw5 : Chg NoS w w5 := cw4.trans2 c5 fun k hk e => by have : k = q.b := e; omega
    refine agg4 ?_
    refine setW_blk (b := w.heap.size) (i := 0) p5 (by simp) rfl fun x1 p51 d1 y1 => ?_
    refine setW_blk (b := w.heap.size) (i := 1) p51 (by simp) rfl fun x2 p52 d2 y2 => ?_
    refine setW_blk (b := w.heap.size) (i := 2) p52 (by simp) rfl fun x3 p53 d3 y3 => ?_
    refine setW_blk (b := w.heap.size) (i := 3) p53 (by simp) rfl fun w6 p54 d4 y4 => ?_
    have d6 : Chg (OnlyB w.heap.size) w5 w6 := ((d1.trans d2).trans d3).trans d4
    have p6 : w6.heap[w.heap.size]? = some (.cells (parr u none 0 0) 29 (0, 0)) := by rw [p54]; simp
    have z6 : w6.heap.size = w5.heap.size := by rw [y4, y3, y2, y1]
    clear p51 p52 p53 p54 d1 d2 d3 d4 y1 y2 y3 y4
    have h6 : Rdr w6 q ws j0 := keepP h5 d6
    have e6 := d6.blk e5 fun e => hne (Eq.symm e)
    have cw6 : Chg NoS w w6 := cw5.trans2 d6 fun k hk e => by have : k = w.heap.size := e; omega
    have hu6 : u.own w6 (fun k => q.b < k ∧ k < w6.heap.size ∧ (Value.slice none 0 0).ownBlock ≠ some k) main := hu.lt.keep d6 (fun b hb e => by have : b = w.heap.size := e; have := hb.1; omega) fun b hb => ⟨by have := hb.1; omega, by have := hb.2; omega, by simp [Value.ownBlock]⟩
    clear p5 e5 h5 hu
    refine ⟨fun _ w7 => LoopI w q ws j0 main w.heap.size wA.heap.size w7, fun _ w7 => ws.length - rpos w7 q.b, ⟨(), trivial, j0, [], [], u, none, 0, h6, fun l' e b h => h, p6, e6, own_nil' w6 _ 41 5, .nil, hu6, cw6, by simp⟩, ?_⟩
    clear h6 p6 e6 hu6 cw6 z6 d6
    rintro _ w7 ⟨j, l, us, u, qa, qc, h7, hQ, p7, e7, ho7, hqo7, hu7, cw7, hlj⟩ _
    have q7 := lt_of_blk h7.blk
    have hjl := h7.lt
    refine Calls.then (take_ok h7 1 cntW (by omega)) ?_
    rintro v w8 ⟨rfl, h8, c8⟩
    have s8 := c8.size
    have cw8 : Chg NoS w w8 := cw7.trans2 c8 fun k hk e => by have : k = q.b := e; omega
    have p8 := c8.blk p7 hpq
    have e8 := c8.blk e7 heq
    have hownq : ∀ k, (Value.slice qa l.length qc).ownBlock = some k → ¬ OnlyB q.b k := fun k hk e => by
      have := (own_ge ho7 hk).1
      have : k = q.b := e
      omega
    have ho8 := own_of_chg ho7 c8 hownq
    have hqo8 : QO w8 (fun k => q.b < k ∧ k < w8.heap.size ∧ (Value.slice qa l.length qc).ownBlock ≠ some k) us (bsQ l) := hqo7.keep c8 (fun b hb e => by have : b = q.b := e; omega) fun b hb => ⟨hb.1, by omega, hb.2.2⟩
    have hu8 : u.own w8 (fun k => q.b < k ∧ k < w8.heap.size ∧ (Value.slice qa l.length qc).ownBlock ≠ some k) main := hu7.keep c8 (fun b hb e => by have : b = q.b := e; omega) fun b hb => ⟨hb.1, by omega, hb.2.2⟩
    have get8 : ∀ {wx : World}, wx.heap[w.heap.size]? = some (.cells (parr u qa l.length qc) 29 (0, 0)) → ∀ k v, (parr u qa l.length qc)[k]? = some v → wx.cell? (addK ⟨w.heap.size, 0, none⟩ k) = some v := fun hb k v hv => by rw [addK_lit, Nat.zero_add, cell_blk hb]; exact hv
    refine ⟨_, rfl, ?_⟩
    cases hw : isW ws j 1 cntW with
    | true =>
      rw [hw, if_pos rfl] at h8
      rw [if_pos rfl]
      have h8d := h8.keep (chg_drew w8 NoS)
      have p8d : w8.drew.heap[w.heap.size]? = _ := p8
      obtain ⟨x, hx⟩ := h8.word
      refine ⟨OnlyB q.b, by rw [addK_block]; exact hpq, _, _, _, get8 p8d 4 _ rfl, ?_⟩
      refine Calls.thenP (query_ok h8d hx (levels _ _ rfl).2.2.2.2.1) ?_ fun ch w' ⟨j', hP', hb⟩ => fin hb (cw8.trans (chg_drew w8 _)) (by rw [size_drew]; omega) p8d e8 fun y hy => .inr ⟨main, j0, l, j', false, y, hP, by simpa using hQ [] j' false (.bad hw hP'), hy, by unfold endS; rw [if_neg (by simp)]⟩
      rintro v w9 ⟨tq, j', uq, hP', rfl, huq, h9, c9⟩
      have c89 : Chg (OnlyB q.b) w8 w9 := (chg_drew w8 _).trans c9
      have s9 := c89.size
      have hlt9 : j + 1 ≤ j' := by
        unfold Qa at hP'
        rw [hx] at hP'
        dsimp only at hP'
        split at hP'
        · split at hP'
          · have := hP'.le; omega
          · cases hP'
        · cases hP'
      refine ⟨_, rfl, _, _, rfl, _, rfl, _, _, rfl, _, rfl, _, _, rfl, _, rfl, _, _, rfl, _, rfl, _, _, rfl, _, _, _, rfl, rfl, ⟨c9.size, fun b hb hs => c9.block b hb hs⟩, ?_⟩
      have ca := chg_alloc w9 (.cells #[.string (bs x.txt), .int .i8 uq.op, .int .i8 uq.f, .int .u64 uq.n, .slice uq.b uq.m uq.c] 41) NoS
      have ba := blk_alloc w9 (.cells #[.string (bs x.txt), .int .i8 uq.op, .int .i8 uq.f, .int .u64 uq.n, .slice uq.b uq.m uq.c] 41)
      have za := size_alloc w9 (.cells #[.string (bs x.txt), .int .i8 uq.op, .int .i8 uq.f, .int .u64 uq.n, .slice uq.b uq.m uq.c] 41)
      generalize w9.alloc (.cells #[.string (bs x.txt), .int .i8 uq.op, .int .i8 uq.f, .int .u64 uq.n, .slice uq.b uq.m uq.c] 41) = w10 at ca ba za ⊢
      have c9a : Chg (OnlyB q.b) w8.drew w10 := c9.trans (toB ca _)
      have c8a : Chg (OnlyB q.b) w8 w10 := c89.trans (toB ca _)
      refine ⟨⟨c9a.size, fun b hb hs => c9a.block b hb hs⟩, ?_⟩
      have ho10 := own_of_chg ho8 c8a hownq
      have h9lt := h9.lt
      have hws := h9.st.small
      refine queries_append (base := q.b + 1) (n := l.length) (m := 1) (vs := us) (us := [(bs x.txt, uq)]) ho10 rfl (by
        have := reads_lit ba
        simpa [flatQ, qcells] using this) (fun e => by cases e) (by omega) (by omega) ?_
      intro a' c' w11 ho11 c11 hb11
      have s11 := c11.size
      have rowne : ∀ k, (Value.slice qa l.length qc).ownBlock = some k → q.b < k ∧ k < w8.heap.size := fun k hk => by
        have := own_ge ho8 hk
        omega
      have hnp : ¬ (Value.slice qa l.length qc).ownBlock = some w.heap.size := fun e => by have := (rowne _ e).1; omega
      have hnq : ¬ (Value.slice qa l.length qc).ownBlock = some q.b := fun e => by have := (rowne _ e).1; omega
      have p11 := c11.blk (c8a.blk p8 hpq) hnp
      have e11 := c11.blk (c8a.blk e8 heq) fun e => by have := (rowne _ e).1; omega
      have h11 : Rdr w11 q ws j' := by
        have h10 := h9.keep ca
        cases hob : (Value.slice qa l.length qc).ownBlock with
        | none => exact h10.keep (c11.mono fun k hk e => by rw [hob] at e; cases e)
        | some g =>
          have hg := (rowne g hob).1
          exact h10.keep2 (c11.mono fun k hk e => by rw [hob] at e; exact (Option.some.inj e).symm) h4 (by omega)
      have cw11 : Chg NoS w w11 := (cw8.trans2 c8a fun k hk e => by have : k = q.b := e; omega).trans2 c11 fun k hk e => by have := (rowne _ e).1; omega
      refine ⟨_, _, _, rfl, ?_⟩
      refine setW_blk (b := w.heap.size) (i := 4) p11 (by simp) rfl fun w12 p12 c12 z12 => ?_
      have p12' : w12.heap[w.heap.size]? = some (.cells (parr u a' (l.length + 1) c') 29 (0, 0)) := by rw [p12]; simp
      have h12 := keepP h11 c12
      have e12 := c12.blk e11 fun e => hne (Eq.symm e)
      have cw12 : Chg NoS w w12 := cw11.trans2 c12 fun k hk e => by have : k = w.heap.size := e; omega
      have c8z : Chg (fun k => (k = q.b ∨ k = w.heap.size) ∨ (Value.slice qa l.length qc).ownBlock = some k) w8 w12 := ((c8a.mono fun k _ e => .inl (.inl e)).trans2 c11 fun k _ e => .inr e).trans (c12.mono fun k _ e => .inl (.inr e))
      have s8a := c8a.size
      have ho12 := own_of_chg ho11 c12 fun k hk e => by
        have e' : k = w.heap.size := e
        rcases hb11 k hk with h | h
        · have := (rowne _ h).1; omega
        · omega
      have c9z : Chg (fun k => k = w.heap.size ∨ (Value.slice qa l.length qc).ownBlock = some k) w9 w12 := ((ca.mono fun _ _ x => x.elim).trans2 c11 fun k _ e => .inr e).trans (c12.mono fun k _ e => .inl e)
      have newset : ∀ b, (q.b < b ∧ b < w8.heap.size ∧ (Value.slice qa l.length qc).ownBlock ≠ some b) → q.b < b ∧ b < w12.heap.size ∧ (Value.slice a' (l.length + 1) c').ownBlock ≠ some b := fun b hb => ⟨hb.1, by omega, fun e => by
        rcases hb11 b e with h | h
        · exact hb.2.2 h
        · have := hb.2.1; omega⟩
      have avoid : ∀ b, (q.b < b ∧ b < w8.heap.size ∧ (Value.slice qa l.length qc).ownBlock ≠ some b) → ¬ ((b = q.b ∨ b = w.heap.size) ∨ (Value.slice qa l.length qc).ownBlock = some b) := fun b hb e => by
        rcases e with (e | e) | e
        · omega
        · omega
        · exact hb.2.2 e
      refine ⟨rfl, (), trivial, ⟨j', l ++ [(x.txt, tq)], us ++ [(bs x.txt, uq)], u, a', c', h12, fun l' e b h => ?_, by simpa using p12', e12, by simpa using ho12, ?_, ?_, cw12, by simp; omega⟩, ?_⟩
      · rw [List.append_assoc]
        exact hQ _ e b (.go hw hx hP' h)
      · have hl1 : (l ++ [(x.txt, tq)]).length = l.length + 1 := by simp
        rw [hl1]
        have : bsQ (l ++ [(x.txt, tq)]) = bsQ l ++ [(bs x.txt, tq)] := by simp [bsQ]
        rw [this]
        refine QO.append (hqo8.keep c8z avoid newset) (.cons (huq.lt.keep c9z (fun b hb e => ?_) fun b hb => ⟨?_, ?_, fun e => ?_⟩) .nil)
        · have hb1 : w8.heap.size ≤ b := hb.1
          rcases e with e | e
          · omega
          · have := (rowne _ e).2; omega
        · have hb1 : w8.heap.size ≤ b := hb.1
          omega
        · have := hb.2; omega
        · have hb1 : w8.heap.size ≤ b := hb.1
          have hb2 := hb.2
          rcases hb11 b e with h | h
          · have := (rowne _ h).2; omega
          · omega
      · have hl1 : (l ++ [(x.txt, tq)]).length = l.length + 1 := by simp
        rw [hl1]
        exact hu8.keep c8z avoid newset
      · dsimp only
        rw [rpos_rdr h12, rpos_rdr h7]
        omega
    | false =>
      rw [hw, if_neg (by simp)] at h8
      rw [if_neg (by simp)]
      obtain ⟨x, hx⟩ := h8.word
      have hQe : QsR ws j0 l j true := by simpa using hQ [] j true (.stop hw)
      refine Calls.then (next_ok h8 hx) ?_
      rintro v w9 ⟨rfl, c9⟩
      have h9 := h8.keep c9
      have p9 := c9.blk p8 fun x => x
      have e9 := c9.blk e8 fun x => x
      have s9 := c9.size
      refine aggW ?_
      by_cases hk : x.kind = 0
      · rw [if_neg (by simp [hk])]
        refine ⟨_, get8 p9 0 _ rfl, _, get8 p9 1 _ rfl, _, get8 p9 2 _ rfl, _, _, _, get8 p9 3 _ rfl, _, _, _, get8 p9 4 _ rfl, ?_⟩
        have ho9 := own_of_chg ho8 c9 fun _ _ x => x
        have hqs := (hqo8.keepN c9).at (a := qa) fun k u hu => own_cell ho9 hu
        have hsm := small_ok (qc := qc) (hu8.keepN c9).is hqs (by rw [bsQ_len]; omega)
        rw [bsQ_len, bsQ_preds] at hsm
        refine Calls.then hsm ?_
        rintro v w10 ⟨rfl, c10⟩
        have p10 := c10.blk p9 fun x => x
        have e10 := c10.blk e9 fun x => x
        have cw10 : Chg NoS w w10 := (cw8.trans c9).trans c10
        have s10 := c10.size
        refine ⟨_, rfl, ?_⟩
        have hfile : ∀ o, o = endS main l x true → PolP t o := fun o ho => hPF o (.inr ⟨main, j0, l, j, true, x, hP, hQe, hx, ho⟩)
        unfold endS at hfile
        rw [if_pos ⟨rfl, hk⟩] at hfile
        cases hb : smallS (main :: l.map (·.2)) with
        | true =>
          rw [hb, if_pos rfl] at hfile
          rw [if_neg (by simp)]
          refine ⟨_, get8 p10 0 _ rfl, _, get8 p10 1 _ rfl, _, get8 p10 2 _ rfl, _, _, _, get8 p10 3 _ rfl, _, _, _, get8 p10 4 _ rfl, ?_⟩
          refine (sets_blk (vs := [.int .i8 u.op, .int .i8 u.f, .int .u64 u.n, .slice u.b u.m u.c, .slice qa l.length qc]) p10 rfl (by simp [oneC]) fun w11 p11 c11 z11 => ?_ : setsW _ _ _ _ _)
          refine setW_blk (b := wA.heap.size) (i := 0) (c11.blk e10 fun e => hne (Eq.symm e)) (by simp) rfl fun w12 e12 c12 z12 => ?_
          have cc : Chg (fun k => k = w.heap.size ∨ k = wA.heap.size) w10 w12 := (c11.mono fun k _ e => .inl e).trans (c12.mono fun k _ e => .inr e)
          refine leave_idle (res_ok (u := u) (c12.blk p11 hne) (by simpa using e12) ?_)
          have hu12 : u.own w12 (fun _ => True) main := ((hu8.keepN c9).keepN c10).keep cc (fun b hb e => by rcases e with e | e <;> omega) fun _ _ => trivial
          have hq12 : QO w12 (fun _ => True) us (bsQ l) := ((hqo8.keepN c9).keepN c10).keep cc (fun b hb e => by rcases e with e | e <;> omega) fun _ _ => trivial
          have ho12 := own_of_chg (own_of_chg ho9 c10 fun _ _ x => x) cc fun k hk e => by
            have := (own_ge ho7 hk).1
            rcases e with e | e <;> omega
          exact ⟨.ok main l, hfile _ rfl, cw10.trans2 cc fun k hk e => by rcases e with e | e <;> omega, u, qa, qc, rfl, hu12.is, hq12.at fun k u hu => own_cell ho12 hu, by omega⟩
        | false =>
          rw [hb, if_neg (by simp)] at hfile
          rw [if_pos (by rfl)]
          have cf := chg_alloc w10 (.cells #[.int .i64 200, .int .i64 0, .string { data := #[] }] 74) NoS
          have bf := blk_alloc w10 (.cells #[.int .i64 200, .int .i64 0, .string { data := #[] }] 74)
          generalize w10.alloc (.cells #[.int .i64 200, .int .i64 0, .string { data := #[] }] 74) = w11 at cf bf ⊢
          have p11 := cf.blk p10 fun x => x
          have e11 := cf.blk e10 fun x => x
          refine (sets_blk (vs := [.int .i8 0, .int .i8 0, .int .u64 0, .slice none 0 0, .slice none 0 0]) p11 rfl (by simp [oneC]) fun w12 p12 c12 z12 => ?_ : setsW _ _ _ _ _)
          refine setW_blk (b := wA.heap.size) (i := 0) (c12.blk e11 fun e => hne (Eq.symm e)) (by simp) rfl fun w13 e13 c13 z13 => ?_
          have cc : Chg (fun k => k = w.heap.size ∨ k = wA.heap.size) w11 w13 := (c12.mono fun k _ e => .inl e).trans (c13.mono fun k _ e => .inr e)
          refine leave_idle (res_ok (u := u0) (c13.blk p12 hne) (by simpa using e13) ?_)
          exact ⟨.fault 200 0 [], hfile _ rfl, (cw10.trans cf).trans2 cc fun k hk e => by rcases e with e | e <;> omega, w10.heap.size, rfl, cw10.size, cc.blk bf fun e => by rcases e with e | e <;> omega⟩
      · rw [if_pos (by simp; omega)]
        refine (bad_ok h9).mono fun ev w' he => ?_
        cases ev with
        | returned _ => exact he.elim
        | outgrown => exact he.elim
        | panicked ch => exact fin he (cw8.trans c9) (by omega) p9 e9 fun y hy => .inr ⟨main, j0, l, j, true, y, hP, hQe, hy, by
            rw [hx] at hy
            injection hy with hy
            subst hy
            unfold endS
            rw [if_neg (by simp [hk])]⟩
end Go.Proofs.YtpolbdakhfcilaaGreatDoor.B

