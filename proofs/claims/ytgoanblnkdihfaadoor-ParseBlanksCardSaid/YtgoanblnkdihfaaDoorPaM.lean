/-
  parse: rows of queries; what words there can be.
-/
import Derived.Test.YtgoanblnkdihfaaDoorPaK
import Derived.Test.YtgoanblnkdihfaaDoorPaL
set_option maxRecDepth 100000
set_option linter.unusedVariables false
set_option linter.unusedSimpArgs false
namespace Go.Proofs.YtgoanblnkdihfaaDoor.B
open Go Go.Proofs Go.Proofs.YtgoanblnkdihfaaDoorEng Go.RowKit

/-! ### rows of queries -/
abbrev VQ := ByteArray × V4
def qcells (q : VQ) : List Value := [.string q.1, .int .i8 q.2.op, .int .i8 q.2.f, .int .u64 q.2.n, .slice q.2.b q.2.m q.2.c]
def flatQ (qs : List VQ) : List Value := qs.flatMap qcells
theorem flatQ_length : ∀ vs : List VQ, (flatQ vs).length = vs.length * 5
  | [] => rfl
  | v :: vs => by
    have := flatQ_length vs
    unfold flatQ at *
    rw [List.flatMap_cons, List.length_append, this, List.length_cons]
    simp [qcells]
    omega
theorem flatQ_append (a b : List VQ) : flatQ (a ++ b) = flatQ a ++ flatQ b := by simp [flatQ]
theorem flatQ_get : ∀ (vs : List VQ) (j i : Nat) (v : VQ), vs[j]? = some v → i < 5 → (flatQ vs)[j * 5 + i]? = (qcells v)[i]?
  | [], j, i, v, h, _ => by simp at h
  | x :: vs, 0, i, v, h, hi => by
    simp only [List.getElem?_cons_zero, Option.some.injEq] at h
    subst h
    unfold flatQ
    rw [List.flatMap_cons, List.getElem?_append_left (by simp [qcells]; omega)]
    congr 1
    omega
  | x :: vs, j + 1, i, v, h, hi => by
    simp only [List.getElem?_cons_succ] at h
    have := flatQ_get vs j i v h hi
    unfold flatQ at *
    rw [List.flatMap_cons, List.getElem?_append_right (by simp [qcells]; omega)]
    rw [← this]
    congr 1
    simp [qcells]
    omega
theorem flatQ_one (vs : List VQ) : ∀ u ∈ flatQ vs, u.oneCell' = true := fun u hu => by
  obtain ⟨v, _, hv⟩ := List.mem_flatMap.1 hu
  simp only [qcells, List.mem_cons, List.not_mem_nil, or_false] at hv
  rcases hv with rfl | rfl | rfl | rfl | rfl <;> rfl
inductive QO (w : World) (S : Nat → Prop) : List VQ → List Qu → Prop
  | nil : QO w S [] []
  | cons {s : ByteArray} {v : V4} {t : Tm} {vs : List VQ} {ts : List Qu} : v.own w S t → QO w S vs ts → QO w S ((s, v) :: vs) ((s, t) :: ts)
theorem QO.keep {w w' : World} {S S' T : Nat → Prop} (hc : Chg S' w w') (hs : ∀ b, S b → ¬ S' b) (ht : ∀ b, S b → T b) : ∀ {vs : List VQ} {ts : List Qu}, QO w S vs ts → QO w' T vs ts
  | _, _, .nil => .nil
  | _, _, .cons h r => .cons (h.keep hc hs ht) (QO.keep hc hs ht r)
theorem QO.keepN {w w' : World} {S : Nat → Prop} {vs : List VQ} {ts : List Qu} (h : QO w S vs ts) (hc : Chg NoS w w') : QO w' S vs ts := h.keep hc (fun _ _ x => x) (fun _ x => x)
theorem QO.mono {w : World} {S T : Nat → Prop} {vs : List VQ} {ts : List Qu} (h : QO w S vs ts) (ht : ∀ b, S b → T b) : QO w T vs ts := h.keep (Chg.refl NoS w) (fun _ _ x => x) ht
theorem QO.len {w : World} {S : Nat → Prop} : ∀ {vs : List VQ} {ts : List Qu}, QO w S vs ts → vs.length = ts.length
  | _, _, .nil => rfl
  | _, _, .cons h r => by simp [r.len]
theorem QO.append {w : World} {S : Nat → Prop} {vs us : List VQ} {ts ss : List Qu} (h : QO w S vs ts) (k : QO w S us ss) : QO w S (vs ++ us) (ts ++ ss) := by
  induction h with
  | nil => exact k
  | cons h r ih => exact .cons h ih
theorem QO.get {w : World} {S : Nat → Prop} : ∀ {vs : List VQ} {ts : List Qu}, QO w S vs ts → ∀ (j : Nat) (t : Qu), ts[j]? = some t → ∃ v, vs[j]? = some (t.1, v) ∧ v.own w S t.2
  | _, _, .nil, j, t, h => by simp at h
  | _, _, .cons h r, 0, t, ht => by
    simp only [List.getElem?_cons_zero, Option.some.injEq] at ht
    subst ht
    exact ⟨_, rfl, h⟩
  | _, _, .cons h r, j + 1, t, ht => by
    obtain ⟨v, h1, h2⟩ := r.get j t (by simpa using ht)
    exact ⟨v, by simpa using h1, h2⟩
theorem readsQ {w : World} {a : Option Addr} {us : List VQ} (h : Reads w a (flatQ us)) {j : Nat} {u : VQ} (hj : us[j]? = some u) : ∃ A, a = some A ∧ w.cell? (addK (addK A (j * 5)) 0) = some (.string u.1) ∧ w.cell? (addK (addK A (j * 5)) 1) = some (.int .i8 u.2.op) ∧ w.cell? (addK (addK A (j * 5)) 2) = some (.int .i8 u.2.f) ∧ w.cell? (addK (addK A (j * 5)) 3) = some (.int .u64 u.2.n) ∧ w.cell? (addK (addK A (j * 5)) 4) = some (.slice u.2.b u.2.m u.2.c) := by
  have g : ∀ i v, (qcells u)[i]? = some v → i < 5 → ∃ A, a = some A ∧ w.cell? (addK A (j * 5 + i)) = some v := fun i v hv hi => h _ _ (by rw [flatQ_get us j i u hj hi]; exact hv)
  obtain ⟨A, rfl, g0⟩ := g 0 _ rfl (by omega)
  obtain ⟨A1, e1, g1⟩ := g 1 _ rfl (by omega)
  obtain ⟨A2, e2, g2⟩ := g 2 _ rfl (by omega)
  obtain ⟨A3, e3, g3⟩ := g 3 _ rfl (by omega)
  obtain ⟨A4, e4, g4⟩ := g 4 _ rfl (by omega)
  cases e1
  cases e2
  cases e3
  cases e4
  exact ⟨A, rfl, by rw [addK_addK]; exact g0, by rw [addK_addK]; exact g1, by rw [addK_addK]; exact g2, by rw [addK_addK]; exact g3, by rw [addK_addK]; exact g4⟩
/-- A row of queries is what the calls ask for. -/
theorem QO.at {w : World} {S : Nat → Prop} {us : List VQ} {qs : List Qu} {a : Option Addr} (h : QO w S us qs) (hr : Reads w a (flatQ us)) : QsAt w qs a := fun j q hq => by
  obtain ⟨v, h1, h2⟩ := h.get j q hq
  obtain ⟨A, rfl, g0, g1, g2, g3, g4⟩ := readsQ hr h1
  exact ⟨A, rfl, g0, v.op, v.f, v.n, v.b, v.m, v.c, by rw [addK_addK (addK A (j * 5))]; exact g1, by rw [addK_addK (addK A (j * 5))]; exact g2, by rw [addK_addK (addK A (j * 5))]; exact g3, by rw [addK_addK (addK A (j * 5))]; exact g4, h2.is⟩
theorem info40 : (Tryd.prog.info? 44).map (fun i => (i.zero, i.size, i.bytes)) = some (some (.agg #[.string { data := #[] }, .int .i8 0, .int .i8 0, .int .u64 0, .slice none 0 0]), 5, 56) := by kernel_rfl
/-- append to a row of queries of the call's own -/
theorem queries_append {w : World} {base n m c : Nat} {v : Value} {a : Option Addr} {vs us : List VQ} {K : Value → World → Prop} {E : PanW}
    (ho : w.ownsRow base 44 5 v n (flatQ vs)) (hm : us.length = m) (hr : Reads w a (flatQ us)) (h0 : a = none → m = 0) (hb : n + m ≤ 1099511627776) (hbase : base ≤ w.heap.size)
    (h : ∀ a' c' w', w'.ownsRow base 44 5 (.slice a' (n + m) c') (n + m) (flatQ (vs ++ us)) → Chg (fun k => v.ownBlock = some k) w w' → (∀ k, (Value.slice a' (n + m) c').ownBlock = some k → v.ownBlock = some k ∨ w.heap.size ≤ k) → K (.slice a' (n + m) c') w') :
    runV Tryd.prog (Builtin.append_ #[29, 29] 29 #[v, .slice a m c]) w K E := by
  obtain ⟨i, hi, hz, hs, hby⟩ := info_open' info40
  refine append_own (base := base) (n := n) (m := m) Tryd.underlying29 hi hz hs rfl ho (src_slice Tryd.underlying29 (by rw [flatQ_length, hm]) hr h0 (flatQ_one us)) (by rw [hby]; omega) (by omega) hbase ?_
  intro v' w' ho' hc hb1 hb2
  obtain ⟨a', c', rfl, _, _⟩ := own_form ho'
  refine h a' c' w' (by rw [flatQ_append]; exact ho') hc fun k hk => ?_
  rcases hb1 with e | e
  · exact .inl (e ▸ hk)
  · rw [e] at hk; exact .inr (by have := Option.some.inj hk; omega)
theorem wcells_at {ws : List Wd} {i : Nat} {x : Wd} (h : ws[i]? = some x) : (wcells ws)[i * 4]? = some (.int .i8 (x.kind : Int)) ∧ (wcells ws)[i * 4 + 1]? = some (.string (bs x.txt)) ∧ (wcells ws)[i * 4 + 2]? = some (.int .u64 (x.num : Int)) ∧ (wcells ws)[i * 4 + 3]? = some (.int .i64 (x.pos : Int)) := by
  induction ws generalizing i with
  | nil => simp at h
  | cons y r ih =>
    cases i with
    | zero =>
      simp only [List.getElem?_cons_zero, Option.some.injEq] at h
      subst h
      exact ⟨rfl, rfl, rfl, rfl⟩
    | succ i =>
      simp only [List.getElem?_cons_succ] at h
      have := ih h
      have e : wcells (y :: r) = [.int .i8 (y.kind : Int), .string (bs y.txt), .int .u64 (y.num : Int), .int .i64 (y.pos : Int)] ++ wcells r := rfl
      rw [e]
      refine ⟨?_, ?_, ?_, ?_⟩
      · rw [List.getElem?_append_right (by simp; omega)]; simpa [Nat.succ_mul] using this.1
      · rw [List.getElem?_append_right (by simp; omega)]; simpa [Nat.succ_mul, show (i + 1) * 4 + 1 - 4 = i * 4 + 1 by omega] using this.2.1
      · rw [List.getElem?_append_right (by simp; omega)]; simpa [Nat.succ_mul, show (i + 1) * 4 + 2 - 4 = i * 4 + 2 by omega] using this.2.2.1
      · rw [List.getElem?_append_right (by simp; omega)]; simpa [Nat.succ_mul, show (i + 1) * 4 + 3 - 4 = i * 4 + 3 by omega] using this.2.2.2
/-- the words of a row, read -/
theorem row_word {w : World} {base n c : Nat} {a : Option Addr} {ws : List Wd} (ho : w.ownsRow base 58 4 (.slice a n c) n (wcells ws)) {i : Nat} {x : Wd} (h : ws[i]? = some x) : ∃ A, a = some A ∧ w.cell? (addK (addK A (i * 4)) 0) = some (.int .i8 (x.kind : Int)) ∧ w.cell? (addK (addK A (i * 4)) 1) = some (.string (bs x.txt)) ∧ w.cell? (addK (addK A (i * 4)) 2) = some (.int .u64 (x.num : Int)) ∧ w.cell? (addK (addK A (i * 4)) 3) = some (.int .i64 (x.pos : Int)) := by
  obtain ⟨h0, h1, h2, h3⟩ := wcells_at h
  obtain ⟨A, rfl, g0⟩ := own_cell ho h0
  obtain ⟨_, e, g1⟩ := own_cell ho h1
  cases e
  obtain ⟨_, e, g2⟩ := own_cell ho h2
  cases e
  obtain ⟨_, e, g3⟩ := own_cell ho h3
  cases e
  refine ⟨A, rfl, ?_, ?_, ?_, ?_⟩ <;> rw [addK_addK]
  · exact g0
  · exact g1
  · exact g2
  · exact g3
theorem dots_num {t : List UInt8} : ∀ (d i at_ m kd j n : Nat), 4 - i = d → i ≤ 4 → m < 256 ^ i → dots t i at_ m = .ok kd j n → n < 256 ^ 4 := by
  intro d
  induction d with
  | zero =>
    intro i at_ m kd j n hd hi4 hm h
    rw [dots, if_neg (by omega)] at h
    obtain ⟨_, _, rfl⟩ := closed_ok h
    have : i = 4 := by omega
    subst this
    exact hm
  | succ d ih =>
    intro i at_ m kd j n hd hi4 hm h
    have hi : i < 4 := by omega
    by_cases hc : i = 0 ∨ isAt t at_ 46 = true
    · generalize hb : (if i = 0 then at_ else at_ + 1) = b
      by_cases hn : cut t b (span isDig t b) ≠ [] ∧ vals 10 (cut t b (span isDig t b)) ≤ 255 ∧ ¬ (b + 1 < span isDig t b ∧ isAt t b 48 = true)
      · rw [dots_go hi hb.symm rfl hc hn] at h
        refine ih (i + 1) _ _ kd j n (by omega) (by omega) ?_ h
        have h2 := hn.2.1
        rw [Nat.pow_succ]
        generalize 256 ^ i = p at hm ⊢
        omega
      · rw [dots, if_pos hi, if_pos hc] at h
        dsimp only at h
        rw [hb, if_neg hn] at h
        cases h
    · rw [dots, if_pos hi, if_neg hc] at h
      cases h
theorem pr_num {t : List UInt8} : ∀ (d i at_ n m e : Nat), 6 - i = d → i ≤ 6 → n < 256 ^ i → pr t i at_ n = some (m, e) → m < 256 ^ 6 := by
  intro d
  induction d with
  | zero =>
    intro i at_ n m e hd hi6 hn h
    rw [pr, if_neg (by omega)] at h
    injection h with h
    injection h with h1 h2
    have : i = 6 := by omega
    subst this
    omega
  | succ d ih =>
    intro i at_ n m e hd hi6 hn h
    have hi : i < 6 := by omega
    by_cases hc : (i = 0 ∨ isAt t at_ 58 = true) ∧ (if i = 0 then at_ else at_ + 1) + 2 ≤ t.length ∧ isHex (g t (if i = 0 then at_ else at_ + 1)) = true ∧ isHex (g t ((if i = 0 then at_ else at_ + 1) + 1)) = true
    · rw [pr_go hi rfl hc.1 hc.2.1 hc.2.2.1 hc.2.2.2] at h
      refine ih (i + 1) _ _ m e (by omega) (by omega) ?_ h
      have h1 := hv_lt hc.2.2.1
      have h2 := hv_lt hc.2.2.2
      rw [Nat.pow_succ]
      generalize 256 ^ i = p at hn ⊢
      omega
    · rw [pr_no hi rfl hc] at h
      cases h
theorem num_num {t : List UInt8} {k kd j n : Nat} (h : numAt t k = .ok kd j n) : n ≤ 18446744073709551615 := by
  unfold numAt at h
  split at h
  · rename_i m e hp
    obtain ⟨_, _, rfl⟩ := closed_ok h
    have := pr_num 6 0 k 0 n e rfl (by omega) (by decide) hp
    omega
  · split at h
    · unfold hexNum at h
      split at h
      · rename_i hn
        obtain ⟨_, _, rfl⟩ := closed_ok h
        exact hn.2.1
      · cases h
    · split at h
      · have := dots_num 4 0 k 0 kd j n rfl (by omega) (by decide) h
        omega
      · unfold decNum at h
        split at h
        · rename_i hn
          split at h
          · cases h
          · obtain ⟨_, _, rfl⟩ := closed_ok h
            exact hn.2
        · cases h
theorem one_num' {t : List UInt8} {k kd j n : Nat} (h : oneAt t k = .ok kd j n) : n ≤ 18446744073709551615 := by
  unfold oneAt at h
  split at h
  · exact num_num h
  · split at h
    · split at h
      · cases h
      · injection h with h1 h2 h3; omega
    · split at h
      · split at h
        · injection h with h1 h2 h3; omega
        · cases h
      · split at h
        · injection h with h1 h2 h3; omega
        · cases h
theorem scan_good (t : List UInt8) (k : Nat) (ws0 ws : List Wd) (h : scan t k ws0 = .inl ws) : ∃ r, ws = ws0 ++ r ∧ r.length ≤ t.length - k ∧ ∀ x ∈ r, x.num ≤ 18446744073709551615 ∧ x.kind ≠ 0 := by
  by_cases hlt : sk t false k < t.length
  · cases ho : oneAt t (sk t false k) with
    | bad e j => rw [scan_bad hlt ho] at h; cases h
    | ok kd j m =>
      rw [scan_go hlt ho] at h
      have hle := one_le ho hlt
      have hsk := (sk_le t false k).1
      obtain ⟨r, e, hl, hg⟩ := scan_good t j _ ws h
      refine ⟨⟨kd, cut t (sk t false k) j, m, sk t false k⟩ :: r, by rw [e]; simp, by simp only [List.length_cons]; omega, fun x hx => ?_⟩
      rcases List.mem_cons.1 hx with rfl | hx
      · exact ⟨one_num' ho, by dsimp only; omega⟩
      · exact hg x hx
  · rw [scan_end hlt] at h
    injection h with h
    exact ⟨[], by simp [h], by simp, by simp⟩
termination_by t.length - k
decreasing_by
  have := (sk_le t false k).1
  have := one_le (by assumption) (by assumption)
  omega
/-- the words of a text: names, numbers, signs, and the end -/
theorem allR_good {t : List UInt8} {ws : List Wd} (h : allR t = .inl ws) : t.length ≤ 65536 ∧ ∃ r, ws = r ++ [⟨0, [], 0, t.length⟩] ∧ r.length ≤ t.length ∧ (∀ x ∈ r, x.num ≤ 18446744073709551615 ∧ x.kind ≠ 0) ∧ scan t 0 [] = .inl r := by
  unfold allR at h
  split at h
  · cases h
  · rename_i hb
    split at h
    · rename_i ws' hs
      injection h with h
      obtain ⟨r, e, hl, hg⟩ := scan_good t 0 [] ws' hs
      simp only [List.nil_append] at e
      subst e
      exact ⟨by omega, _, h.symm, by omega, hg, hs⟩
    · cases h
end Go.Proofs.YtgoanblnkdihfaaDoor.B
