/-
  Policies: two terms compared; a few small makers; a policy made plain, by the program.
-/
import Derived.Test.YtbpckcmejkcciaaPolR
set_option maxRecDepth 100000
set_option linter.unusedVariables false
set_option linter.unusedSimpArgs false
namespace Go.Proofs.Ytbpckcmejkcciaa.B
open Go Go.Proofs Go.Proofs.YtbpckcmejkcciaaEng

theorem take_ext {ks ls : List Tm} {j : Nat} (hj : j < ks.length) (hl : j < ls.length) (h : ks.take j = ls.take j) : ks.take (j + 1) = ls.take (j + 1) ↔ ks[j] = ls[j] := by
  rw [take_snoc hj, take_snoc hl, h]
  constructor
  · intro e
    have := List.append_cancel_left e
    simpa using this
  · intro e; rw [e]
theorem Terms_ok : ∀ (ta tb : Tm) (v u : V4) (w : World), v.is w ta → u.is w tb → Calls Try.prog 31 #[.agg v.arr, .agg u.arr] w (endW (fun r w' => ∃ b, r = .bool b ∧ (b = true ↔ ta = tb) ∧ Chg NoS w w') (fun _ _ => False)) := by
  intro ta
  generalize hs : tsize ta = sz
  induction sz using Nat.strongRecOn generalizing ta with
  | _ sz ih =>
    subst hs
    intro tb v u w hv hu
    obtain ⟨ks, rfl, hlen, _, hcm, _, hget⟩ := TVal.parts hv
    obtain ⟨ls, rfl, hlen2, _, hcm2, _, hget2⟩ := TVal.parts hu
    refine F31_calls v.op v.f v.n v.b v.m v.c u.op u.f u.n u.b u.m u.c ?_
    delta F31
    have hP0 := mine_alloc (Chg.refl NoS w) v.arr 26
    generalize w.alloc (.cells v.arr 26) = w1 at *
    have hQ := mine_alloc hP0.2.1 u.arr 26
    have hP := hP0.keep (chg_alloc w1 (.cells u.arr 26) NoS)
    generalize w1.alloc (.cells u.arr 26) = w2 at *
    have hno : ∀ w', Chg NoS w w' → (Tm.mk v.op v.f v.n ks ≠ .mk u.op u.f u.n ls) → (∃ b, Value.bool false = .bool b ∧ (b = true ↔ Tm.mk v.op v.f v.n ks = .mk u.op u.f u.n ls) ∧ Chg NoS w w') := fun w' hc hne => ⟨false, rfl, by simp [hne], hc⟩
    refine ⟨fun _ w3 => w3 = w2 ∧ v.op = u.op ∧ v.f = u.f ∧ v.n = u.n ∧ v.m = u.m, ?_, ?_⟩
    rotate_left
    · refine ⟨_, (mine_cell hP 0).trans rfl, _, (mine_cell hQ 0).trans rfl, ?_⟩
      by_cases h0 : v.op = u.op
      rotate_left
      · rw [if_neg (by simp [h0])]
        exact hno _ hP.2.1 (fun e => by injection e with e1 e2 e3 e4; exact h0 e1)
      rw [if_pos (by simp [h0])]
      refine ⟨_, (mine_cell hP 1).trans rfl, _, (mine_cell hQ 1).trans rfl, ?_⟩
      by_cases h1 : v.f = u.f
      rotate_left
      · rw [if_neg (by simp [h1])]
        exact hno _ hP.2.1 (fun e => by injection e with e1 e2 e3 e4; exact h1 e2)
      rw [if_pos (by simp [h1])]
      refine ⟨_, (mine_cell hP 2).trans rfl, _, (mine_cell hQ 2).trans rfl, ?_⟩
      by_cases h2 : v.n = u.n
      rotate_left
      · rw [if_neg (by simp [h2])]
        exact hno _ hP.2.1 (fun e => by injection e with e1 e2 e3 e4; exact h2 e3)
      rw [if_pos (by simp [h2])]
      refine ⟨_, _, _, (mine_cell hP 3).trans rfl, _, _, _, (mine_cell hQ 3).trans rfl, ?_⟩
      by_cases h3 : v.m = u.m
      rotate_left
      · rw [if_pos (by simp; omega)]
        exact hno _ hP.2.1 (fun e => by injection e with e1 e2 e3 e4; exact h3 (by rw [hlen, hlen2, e4]))
      rw [if_neg (by simp; omega)]
      exact ⟨(), trivial, rfl, h0, h1, h2, h3⟩
    rintro _ w3 ⟨rfl, h0, h1, h2, h3⟩ _
    refine ⟨fun s w4 => ∃ j : Nat, s = j ∧ j ≤ v.m ∧ ks.take j = ls.take j ∧ Chg NoS w3 w4, fun s _ => (v.m - s).toNat, ⟨0, ⟨rfl, trivial⟩, 0, rfl, by omega, by simp, Chg.refl _ _⟩, ?_⟩
    rintro s w4 ⟨j, rfl, hj, htk, hc4⟩ _
    have hP4 := hP.keep hc4
    have hQ4 := hQ.keep hc4
    refine ⟨_, _, _, (mine_cell hP4 3).trans rfl, ?_⟩
    by_cases hlt : (j : Int) < v.m
    · rw [if_pos (by simpa using hlt)]
      have hjk : j < ks.length := by omega
      have hjl : j < ls.length := by omega
      have hc5 := chg_drew w4 NoS
      have hP5 := hP4.keep hc5
      have hQ5 := hQ4.keep hc5
      generalize w4.drew = w5 at *
      obtain ⟨A, hA, hT⟩ := hget j _ (List.getElem?_eq_getElem hjk)
      obtain ⟨o, f, n, b, m, c, q0, q1, q2, q3, hq⟩ := hT.keep hP5.2.1
      obtain ⟨A2, hA2, hT2⟩ := hget2 j _ (List.getElem?_eq_getElem hjl)
      obtain ⟨o2, f2, n2, b2, m2, c2, p0, p1, p2, p3, hp⟩ := hT2.keep hP5.2.1
      refine ⟨_, _, _, (mine_cell hP5 3).trans rfl, by omega, by omega, ?_⟩
      rw [hA, wSome_some]
      refine ⟨_, q0, _, q1, _, q2, _, _, _, q3, _, _, _, (mine_cell hQ5 3).trans rfl, by omega, by omega, ?_⟩
      rw [hA2, wSome_some]
      refine ⟨_, p0, _, p1, _, p2, _, _, _, p3, ?_⟩
      refine Calls.then (ih _ (tsize_kid (List.getElem_mem hjk)) ks[j] rfl ls[j] ⟨o, f, n, b, m, c⟩ ⟨o2, f2, n2, b2, m2, c2⟩ w5 hq hp) ?_
      rintro r w6 ⟨bb, rfl, hb, hc6⟩
      refine ⟨_, rfl, ?_⟩
      have hext := take_ext hjk hjl htk
      cases bb with
      | false =>
        rw [if_pos (by decide)]
        refine hno _ (hP5.keep hc6).2.1 fun e => ?_
        injection e with e1 e2 e3 e4
        subst e4
        have := hb.2 rfl
        cases this
      | true =>
        rw [if_neg (by decide)]
        exact ⟨(j : Int) + 1, ⟨by rw [i64w _ (by omega) (by omega)], trivial⟩, ⟨j + 1, by omega, by omega, hext.2 (hb.1 rfl), (hc4.trans hc5).trans hc6⟩, by first | omega | (dsimp only; omega)⟩
    · rw [if_neg (by simpa using hlt)]
      rw [List.take_of_length_le (by omega), List.take_of_length_le (by omega)] at htk
      exact ⟨true, rfl, by simp [h0, h1, h2, htk], hP4.2.1⟩
/-! ### small makers -/
def setS (n : Int) : Tm := .mk 7 9 n []
theorem Set_ok (w : World) {n : Int} (h : 0 ≤ n ∧ n ≤ 18446744073709551615) : Calls Try.prog 30 #[.int .u64 n] w (endW (RetT w (setS n)) (fun _ _ => False)) := by
  refine F30_calls n ?_
  delta F30
  refine set4 ⟨7, 9, n, none, 0, 0⟩ (mine_alloc (Chg.refl NoS w) _ _) rfl ?_
  intro w1 hM hc
  refine get4 hM ?_
  exact ⟨⟨7, 9, n, none, 0, 0⟩, rfl, own_mk (us := []) ⟨by omega, by omega, by omega, by omega, h.1, h.2⟩ rfl (by omega) (by omega) .nil (fun j u hu => by simp [flat] at hu) (fun A e => by cases e), hM.2.1⟩
/-- what comes back is this term -/
def RetV (w : World) (t : Tm) (r : Value) (w' : World) : Prop := ∃ u : V4, r = .agg u.arr ∧ u.is w' t ∧ Chg NoS w w'
theorem tval_mk {w : World} {op f n : Int} {b : Option Addr} {m c : Nat} {us : List V4} {ks : List Tm} (h4 : -128 ≤ op ∧ op ≤ 127 ∧ -128 ≤ f ∧ f ≤ 127 ∧ 0 ≤ n ∧ n ≤ 18446744073709551615) (hm : m = ks.length) (hmc : m ≤ c) (hc : c ≤ 9223372036854775807)
    (h : VS w us ks) (hr : Reads w b (flat us)) : V4.is ⟨op, f, n, b, m, c⟩ w (.mk op f n ks) := TVal.of hm hmc hc h4 (terms_of_reads hr h)
theorem LFilter_ok {w : World} {t : Tm} {v : V4} (hv : v.is w t) : Calls Try.prog 23 #[.agg v.arr] w (endW (RetV w (.mk 6 0 0 [t])) (fun _ _ => False)) := by
  refine F23_calls v.op v.f v.n v.b v.m v.c ?_
  delta F23
  have hP0 := mine_alloc (Chg.refl NoS w) v.arr 26
  generalize w.alloc (.cells v.arr 26) = w1 at *
  have hM0 := mine_alloc hP0.2.1 #[.int .i8 0, .int .i8 0, .int .u64 0, .slice none 0 0] 26
  have hP1 := hP0.keep (chg_alloc w1 (.cells #[.int .i8 0, .int .i8 0, .int .u64 0, .slice none 0 0] 26) NoS)
  generalize w1.alloc (.cells #[.int .i8 0, .int .i8 0, .int .u64 0, .slice none 0 0] 26) = w2 at *
  refine get4 hP1 ?_
  have hb := blk_alloc w2 (.cells v.arr 26)
  have hM1 := hM0.keep (chg_alloc w2 (.cells v.arr 26) NoS)
  have hlt := lt_of_blk hM0.1
  generalize w2.alloc (.cells v.arr 26) = w3 at *
  refine set4 ⟨6, 0, 0, some ⟨w2.heap.size, 0, none⟩, 1, 1⟩ hM1 rfl ?_
  intro w4 hM hc
  refine get4 hM ?_
  have hb4 := hc.blk hb (fun e => by have : w2.heap.size = w1.heap.size := e; omega)
  exact ⟨⟨6, 0, 0, some ⟨w2.heap.size, 0, none⟩, 1, 1⟩, rfl, tval_mk (us := [v]) ⟨by omega, by omega, by omega, by omega, by omega, by omega⟩ rfl (by omega) (by omega) (.cons (hv.keep hM.2.1) .nil) (reads_lit hb4), hM.2.1⟩
/-! ### rows of queries -/
abbrev VQ := ByteArray × V4
def qcells (q : VQ) : List Value := [.string q.1, .int .i8 q.2.op, .int .i8 q.2.f, .int .u64 q.2.n, .slice q.2.b q.2.m q.2.c]
def flatQ (qs : List VQ) : List Value := qs.flatMap qcells
theorem flatQ_length : ∀ vs : List VQ, (flatQ vs).length = vs.length * 5
  | [] => rfl
  | v :: vs => by
    have := flatQ_length vs
    unfold flatQ at *
    rw [List.flatMap_cons, List.length_append, this, List.length_cons]
    simp [qcells]
    omega
theorem flatQ_append (a b : List VQ) : flatQ (a ++ b) = flatQ a ++ flatQ b := by simp [flatQ]
theorem flatQ_get : ∀ (vs : List VQ) (j i : Nat) (v : VQ), vs[j]? = some v → i < 5 → (flatQ vs)[j * 5 + i]? = (qcells v)[i]?
  | [], j, i, v, h, _ => by simp at h
  | x :: vs, 0, i, v, h, hi => by
    simp only [List.getElem?_cons_zero, Option.some.injEq] at h
    subst h
    unfold flatQ
    rw [List.flatMap_cons, List.getElem?_append_left (by simp [qcells]; omega)]
    congr 1
    omega
  | x :: vs, j + 1, i, v, h, hi => by
    simp only [List.getElem?_cons_succ] at h
    have := flatQ_get vs j i v h hi
    unfold flatQ at *
    rw [List.flatMap_cons, List.getElem?_append_right (by simp [qcells]; omega)]
    rw [← this]
    congr 1
    simp [qcells]
    omega
theorem flatQ_one (vs : List VQ) : ∀ u ∈ flatQ vs, u.oneCell' = true := fun u hu => by
  obtain ⟨v, _, hv⟩ := List.mem_flatMap.1 hu
  simp only [qcells, List.mem_cons, List.not_mem_nil, or_false] at hv
  rcases hv with rfl | rfl | rfl | rfl | rfl <;> rfl
inductive QO (w : World) (S : Nat → Prop) : List VQ → List Qu → Prop
  | nil : QO w S [] []
  | cons {s : ByteArray} {v : V4} {t : Tm} {vs : List VQ} {ts : List Qu} : v.own w S t → QO w S vs ts → QO w S ((s, v) :: vs) ((s, t) :: ts)
theorem QO.keep {w w' : World} {S S' T : Nat → Prop} (hc : Chg S' w w') (hs : ∀ b, S b → ¬ S' b) (ht : ∀ b, S b → T b) : ∀ {vs : List VQ} {ts : List Qu}, QO w S vs ts → QO w' T vs ts
  | _, _, .nil => .nil
  | _, _, .cons h r => .cons (h.keep hc hs ht) (QO.keep hc hs ht r)
theorem QO.keepN {w w' : World} {S : Nat → Prop} {vs : List VQ} {ts : List Qu} (h : QO w S vs ts) (hc : Chg NoS w w') : QO w' S vs ts := h.keep hc (fun _ _ x => x) (fun _ x => x)
theorem QO.mono {w : World} {S T : Nat → Prop} {vs : List VQ} {ts : List Qu} (h : QO w S vs ts) (ht : ∀ b, S b → T b) : QO w T vs ts := h.keep (Chg.refl NoS w) (fun _ _ x => x) ht
theorem QO.len {w : World} {S : Nat → Prop} : ∀ {vs : List VQ} {ts : List Qu}, QO w S vs ts → vs.length = ts.length
  | _, _, .nil => rfl
  | _, _, .cons h r => by simp [r.len]
theorem QO.append {w : World} {S : Nat → Prop} {vs us : List VQ} {ts ss : List Qu} (h : QO w S vs ts) (k : QO w S us ss) : QO w S (vs ++ us) (ts ++ ss) := by
  induction h with
  | nil => exact k
  | cons h r ih => exact .cons h ih
theorem QO.get {w : World} {S : Nat → Prop} : ∀ {vs : List VQ} {ts : List Qu}, QO w S vs ts → ∀ (j : Nat) (t : Qu), ts[j]? = some t → ∃ v, vs[j]? = some (t.1, v) ∧ v.own w S t.2
  | _, _, .nil, j, t, h => by simp at h
  | _, _, .cons h r, 0, t, ht => by
    simp only [List.getElem?_cons_zero, Option.some.injEq] at ht
    subst ht
    exact ⟨_, rfl, h⟩
  | _, _, .cons h r, j + 1, t, ht => by
    obtain ⟨v, h1, h2⟩ := r.get j t (by simpa using ht)
    exact ⟨v, by simpa using h1, h2⟩
theorem readsQ {w : World} {a : Option Addr} {us : List VQ} (h : Reads w a (flatQ us)) {j : Nat} {u : VQ} (hj : us[j]? = some u) : ∃ A, a = some A ∧ w.cell? (addK (addK A (j * 5)) 0) = some (.string u.1) ∧ w.cell? (addK (addK A (j * 5)) 1) = some (.int .i8 u.2.op) ∧ w.cell? (addK (addK A (j * 5)) 2) = some (.int .i8 u.2.f) ∧ w.cell? (addK (addK A (j * 5)) 3) = some (.int .u64 u.2.n) ∧ w.cell? (addK (addK A (j * 5)) 4) = some (.slice u.2.b u.2.m u.2.c) := by
  have g : ∀ i v, (qcells u)[i]? = some v → i < 5 → ∃ A, a = some A ∧ w.cell? (addK A (j * 5 + i)) = some v := fun i v hv hi => h _ _ (by rw [flatQ_get us j i u hj hi]; exact hv)
  obtain ⟨A, rfl, g0⟩ := g 0 _ rfl (by omega)
  obtain ⟨A1, e1, g1⟩ := g 1 _ rfl (by omega)
  obtain ⟨A2, e2, g2⟩ := g 2 _ rfl (by omega)
  obtain ⟨A3, e3, g3⟩ := g 3 _ rfl (by omega)
  obtain ⟨A4, e4, g4⟩ := g 4 _ rfl (by omega)
  cases e1
  cases e2
  cases e3
  cases e4
  exact ⟨A, rfl, by rw [addK_addK]; exact g0, by rw [addK_addK]; exact g1, by rw [addK_addK]; exact g2, by rw [addK_addK]; exact g3, by rw [addK_addK]; exact g4⟩
/-- A row of queries is what the calls ask for. -/
theorem QO.at {w : World} {S : Nat → Prop} {us : List VQ} {qs : List Qu} {a : Option Addr} (h : QO w S us qs) (hr : Reads w a (flatQ us)) : QsAt w qs a := fun j q hq => by
  obtain ⟨v, h1, h2⟩ := h.get j q hq
  obtain ⟨A, rfl, g0, g1, g2, g3, g4⟩ := readsQ hr h1
  exact ⟨A, rfl, g0, v.op, v.f, v.n, v.b, v.m, v.c, by rw [addK_addK (addK A (j * 5))]; exact g1, by rw [addK_addK (addK A (j * 5))]; exact g2, by rw [addK_addK (addK A (j * 5))]; exact g3, by rw [addK_addK (addK A (j * 5))]; exact g4, h2.is⟩
theorem info40 : (Try.prog.info? 40).map (fun i => (i.zero, i.size, i.bytes)) = some (some (.agg #[.string { data := #[] }, .int .i8 0, .int .i8 0, .int .u64 0, .slice none 0 0]), 5, 56) := by kernel_rfl
/-- append to a row of queries of the call's own -/
theorem queries_append {w : World} {base n m c : Nat} {v : Value} {a : Option Addr} {vs us : List VQ} {K : Value → World → Prop} {E : PanW}
    (ho : w.ownsRow base 40 5 v n (flatQ vs)) (hm : us.length = m) (hr : Reads w a (flatQ us)) (h0 : a = none → m = 0) (hb : n + m ≤ 1099511627776) (hbase : base ≤ w.heap.size)
    (h : ∀ a' c' w', w'.ownsRow base 40 5 (.slice a' (n + m) c') (n + m) (flatQ (vs ++ us)) → Chg (fun k => v.ownBlock = some k) w w' → (∀ k, (Value.slice a' (n + m) c').ownBlock = some k → v.ownBlock = some k ∨ w.heap.size ≤ k) → K (.slice a' (n + m) c') w') :
    runV Try.prog (Builtin.append_ #[27, 27] 27 #[v, .slice a m c]) w K E := by
  obtain ⟨i, hi, hz, hs, hby⟩ := info_open' info40
  refine append_own (base := base) (n := n) (m := m) Try.underlying27 hi hz hs rfl ho (src_slice Try.underlying27 (by rw [flatQ_length, hm]) hr h0 (flatQ_one us)) (by rw [hby]; omega) (by omega) hbase ?_
  intro v' w' ho' hc hb1 hb2
  obtain ⟨a', c', rfl, _, _⟩ := own_form ho'
  refine h a' c' w' (by rw [flatQ_append]; exact ho') hc fun k hk => ?_
  rcases hb1 with e | e
  · exact .inl (e ▸ hk)
  · rw [e] at hk; exact .inr (by have := Option.some.inj hk; omega)
end Go.Proofs.Ytbpckcmejkcciaa.B
