/-
  Terms in memory: values, rows, blocks (after the policy's texts).
-/
import Derived.Test.YtpolbdakhfcilaaGreatDoorPolA
import Derived.Test.YtpolbdakhfcilaaGreatDoorPolN
import Derived.Test.YtpolbdakhfcilaaGreatDoorBA
import Derived.Test.YtpolbdakhfcilaaGreatDoorEngR
import Derived.Test.YtpolbdakhfcilaaGreatDoorEngV
set_option maxRecDepth 100000
set_option linter.unusedVariables false
set_option linter.unusedSimpArgs false
namespace Go.Proofs.YtpolbdakhfcilaaGreatDoor.B
open Go Go.Proofs Go.Proofs.YtpolbdakhfcilaaGreatDoorEng
theorem ba_beq (s t : ByteArray) : (s == t) = decide (s = t) := by
  obtain ⟨a⟩ := s
  obtain ⟨b⟩ := t
  have h : ((⟨a⟩ : ByteArray) == ⟨b⟩) = (a == b) := rfl
  rw [h]
  by_cases e : a = b
  · subst e; simp
  · simp [e]
def TmRow (w : World) (ts : List Tm) (a : Option Addr) : Prop := ∀ (j : Nat) (k : Tm), ts[j]? = some k → ∃ A, a = some A ∧ TmP w k (addK A (j * 4))
structure V4 where
  op : Int
  f : Int
  n : Int
  b : Option Addr
  m : Nat
  c : Nat
def V4.cells (v : V4) : List Value := [.int .i8 v.op, .int .i8 v.f, .int .u64 v.n, .slice v.b v.m v.c]
def V4.is (v : V4) (w : World) (t : Tm) : Prop := TVal w t v.op v.f v.n v.b v.m v.c
theorem V4.is.keep {v : V4} {w w' : World} {t : Tm} (h : v.is w t) (hc : Chg NoS w w') : v.is w' t := TVal.keep hc h
def flat (vs : List V4) : List Value := vs.flatMap V4.cells
theorem flat_length : ∀ vs : List V4, (flat vs).length = vs.length * 4
  | [] => rfl
  | v :: vs => by
    have := flat_length vs
    unfold flat at *
    rw [List.flatMap_cons, List.length_append, this, List.length_cons]
    simp [V4.cells]
    omega
theorem flat_append (a b : List V4) : flat (a ++ b) = flat a ++ flat b := by simp [flat]
theorem flat_get : ∀ (vs : List V4) (j i : Nat) (v : V4), vs[j]? = some v → i < 4 → (flat vs)[j * 4 + i]? = v.cells[i]?
  | [], j, i, v, h, _ => by simp at h
  | x :: vs, 0, i, v, h, hi => by
    simp only [List.getElem?_cons_zero, Option.some.injEq] at h
    subst h
    unfold flat
    rw [List.flatMap_cons, List.getElem?_append_left (by simp [V4.cells]; omega)]
    congr 1
    omega
  | x :: vs, j + 1, i, v, h, hi => by
    simp only [List.getElem?_cons_succ] at h
    have := flat_get vs j i v h hi
    unfold flat at *
    rw [List.flatMap_cons, List.getElem?_append_right (by simp [V4.cells]; omega)]
    rw [← this]
    congr 1
    simp [V4.cells]
    omega
theorem flat_one (vs : List V4) : ∀ u ∈ flat vs, u.oneCell' = true := fun u hu => by
  obtain ⟨v, _, hv⟩ := List.mem_flatMap.1 hu
  simp only [V4.cells, List.mem_cons, List.not_mem_nil, or_false] at hv
  rcases hv with rfl | rfl | rfl | rfl <;> rfl
/-- values and the terms that they are -/
inductive VS (w : World) : List V4 → List Tm → Prop
  | nil : VS w [] []
  | cons {v : V4} {t : Tm} {vs : List V4} {ts : List Tm} : v.is w t → VS w vs ts → VS w (v :: vs) (t :: ts)
theorem VS.keep {w w' : World} (hc : Chg NoS w w') : ∀ {vs : List V4} {ts : List Tm}, VS w vs ts → VS w' vs ts
  | _, _, .nil => .nil
  | _, _, .cons h r => .cons (h.keep hc) (VS.keep hc r)
theorem VS.len {w : World} : ∀ {vs : List V4} {ts : List Tm}, VS w vs ts → vs.length = ts.length
  | _, _, .nil => rfl
  | _, _, .cons h r => by simp [r.len]
theorem VS.get {w : World} : ∀ {vs : List V4} {ts : List Tm}, VS w vs ts → ∀ (j : Nat) (t : Tm), ts[j]? = some t → ∃ v, vs[j]? = some v ∧ v.is w t
  | _, _, .nil, j, t, h => by simp at h
  | _, _, .cons h r, 0, t, ht => by
    simp only [List.getElem?_cons_zero, Option.some.injEq] at ht
    subst ht
    exact ⟨_, rfl, h⟩
  | _, _, .cons h r, j + 1, t, ht => by
    obtain ⟨v, h1, h2⟩ := r.get j t (by simpa using ht)
    exact ⟨v, by simpa using h1, h2⟩
theorem VS.append {w : World} {vs us : List V4} {ts ss : List Tm} (h : VS w vs ts) (k : VS w us ss) : VS w (vs ++ us) (ts ++ ss) := by
  induction h with
  | nil => exact k
  | cons h r ih => exact .cons h ih
/-- A slice whose cells are these, and the terms that it holds. -/
theorem terms_of_reads {w : World} {a : Option Addr} {vs : List V4} {ts : List Tm} (hr : Reads w a (flat vs)) (h : VS w vs ts) : TmRow w ts a := fun j t hj => by
  obtain ⟨v, hv, hi⟩ := h.get j t hj
  have g : ∀ i u, v.cells[i]? = some u → i < 4 → ∃ A, a = some A ∧ w.cell? (addK A (j * 4 + i)) = some u := fun i u hu hi => hr _ _ (by rw [flat_get vs j i v hv hi]; exact hu)
  obtain ⟨A, rfl, g0⟩ := g 0 _ rfl (by omega)
  obtain ⟨A1, e1, g1⟩ := g 1 _ rfl (by omega)
  obtain ⟨A2, e2, g2⟩ := g 2 _ rfl (by omega)
  obtain ⟨A3, e3, g3⟩ := g 3 _ rfl (by omega)
  cases e1
  cases e2
  cases e3
  exact ⟨A, rfl, v.op, v.f, v.n, v.b, v.m, v.c, by rw [addK_addK]; exact g0, by rw [addK_addK]; exact g1, by rw [addK_addK]; exact g2, by rw [addK_addK]; exact g3, hi⟩
theorem reads_of_terms {w : World} {a : Option Addr} : ∀ {ts : List Tm} (_ : TmRow w ts a), ∃ vs, Reads w a (flat vs) ∧ VS w vs ts := by
  intro ts
  have key : ∀ (n : Nat), n ≤ ts.length → TmRow w ts a → ∃ vs, vs.length = n ∧ Reads w a (flat vs) ∧ VS w vs (ts.take n) := by
    intro n
    induction n with
    | zero => exact fun _ _ => ⟨[], rfl, (fun j u hu => by simp [flat] at hu), by simpa using VS.nil⟩
    | succ n ih =>
      intro hn h
      obtain ⟨vs, hl, hr, hv⟩ := ih (by omega) h
      have hlt : n < ts.length := by omega
      obtain ⟨A, rfl, op, f, m, b, k, c, h0, h1, h2, h3, h4⟩ := h n _ (List.getElem?_eq_getElem hlt)
      refine ⟨vs ++ [⟨op, f, m, b, k, c⟩], by simp [hl], fun j u hu => ?_, ?_⟩
      · rw [flat_append] at hu
        rcases Nat.lt_or_ge j (flat vs).length with hj | hj
        · rw [List.getElem?_append_left hj] at hu
          exact hr j u hu
        · rw [List.getElem?_append_right hj] at hu
          rw [flat_length, hl] at hu hj
          refine ⟨A, rfl, ?_⟩
          obtain ⟨i, rfl⟩ : ∃ i, j = n * 4 + i := ⟨j - n * 4, by omega⟩
          rw [show n * 4 + i - n * 4 = i from by omega] at hu
          simp only [flat, List.flatMap_cons, List.flatMap_nil, List.append_nil, V4.cells] at hu
          rw [← addK_addK]
          match i, hu with
          | 0, hu => simp at hu; subst hu; exact h0
          | 1, hu => simp at hu; subst hu; exact h1
          | 2, hu => simp at hu; subst hu; exact h2
          | 3, hu => simp at hu; subst hu; exact h3
          | i + 4, hu => simp at hu
      · rw [List.take_add_one, List.getElem?_eq_getElem hlt]
        exact hv.append (.cons h4 .nil)
  intro h
  obtain ⟨vs, _, h1, h2⟩ := key ts.length (Nat.le_refl _) h
  exact ⟨vs, h1, by simpa using h2⟩
theorem info26 : (Tryz.prog.info? 26).map (fun i => (i.zero, i.size, i.bytes)) = some (some (.agg #[.int .i8 0, .int .i8 0, .int .u64 0, .slice none 0 0]), 4, 40) := by kernel_rfl
/-- append to a row of terms of the call's own -/
theorem terms_append {w : World} {base n m c : Nat} {v : Value} {a : Option Addr} {vs us : List V4} {K : Value → World → Prop} {E : PanW}
    (ho : w.ownsRow base 26 4 v n (flat vs)) (hm : us.length = m) (hr : Reads w a (flat us)) (h0 : a = none → m = 0) (hb : n + m ≤ 1099511627776) (hbase : base ≤ w.heap.size)
    (h : ∀ a' c' w', w'.ownsRow base 26 4 (.slice a' (n + m) c') (n + m) (flat (vs ++ us)) → Chg (fun k => v.ownBlock = some k) w w' → (∀ k, (Value.slice a' (n + m) c').ownBlock = some k → v.ownBlock = some k ∨ w.heap.size ≤ k) → K (.slice a' (n + m) c') w') :
    runV Tryz.prog (Builtin.append_ #[24, 24] 24 #[v, .slice a m c]) w K E := by
  obtain ⟨i, hi, hz, hs, hby⟩ := info_open' info26
  refine append_own (base := base) (n := n) (m := m) Tryz.underlying24 hi hz hs rfl ho (src_slice Tryz.underlying24 (by rw [flat_length, hm]) hr h0 (flat_one us)) (by rw [hby]; omega) (by omega) hbase ?_
  intro v' w' ho' hc hb1 hb2
  obtain ⟨a', c', rfl, _, _⟩ := own_form ho'
  refine h a' c' w' (by rw [flat_append]; exact ho') hc fun k hk => ?_
  rcases hb1 with e | e
  · exact .inl (e ▸ hk)
  · rw [e] at hk; exact .inr (by have := Option.some.inj hk; omega)

/-! ### queries -/
instance ba_lawful : LawfulBEq ByteArray where
  eq_of_beq {a b} h := by rw [ba_beq] at h; exact of_decide_eq_true h
  rfl {a} := by rw [ba_beq]; simp
abbrev V4.arr (v : V4) : Array Value := #[.int .i8 v.op, .int .i8 v.f, .int .u64 v.n, .slice v.b v.m v.c]
/-- A row stands at the beginning of a block that may be written. -/
def Whole (w : World) (A : Addr) : Prop := A.off = 0 ∧ A.spot = none ∧ ∃ cs t, w.heap[A.block]? = some (.cells cs t (0, 0))
theorem Whole.chg {S : Nat → Prop} {w w' : World} {A : Addr} (h : Whole w A) (hc : Chg S w w') (hs : ¬ S A.block) : Whole w' A := by
  obtain ⟨h1, h2, cs, t, h3⟩ := h
  exact ⟨h1, h2, cs, t, hc.blk h3 hs⟩
theorem whole_lit {w : World} {b : Nat} {cs : Array Value} {t : TypeId} (h : w.heap[b]? = some (.cells cs t (0, 0))) : Whole w ⟨b, 0, none⟩ := ⟨rfl, rfl, cs, t, h⟩
theorem own_whole {w : World} {base n c : Nat} {a : Option Addr} {xs : List Value} {e : TypeId} {size : Nat} (h : w.ownsRow base e size (.slice a n c) n xs) : ∀ A, a = some A → Whole w A := fun A hA => by
  subst hA
  rcases h.2 with ⟨he, h0⟩ | ⟨g, cap, cur, he, hg, hh, hn, hm, hsz, ht⟩
  · injection he with h1 _ _
    cases h1
  · injection he with h1 _ _
    cases h1
    exact whole_lit hh
mutual
/-- A term's four cells; its kids lie in blocks of S. -/
def TO (w : World) (S : Nat → Prop) : Tm → Int → Int → Int → Option Addr → Nat → Nat → Prop
  | .mk op f n ks, op', f', n', a, len, c => op' = op ∧ f' = f ∧ n' = n ∧ len = ks.length ∧ len ≤ c ∧ c ≤ 9223372036854775807 ∧ (-128 ≤ op ∧ op ≤ 127 ∧ -128 ≤ f ∧ f ≤ 127 ∧ 0 ≤ n ∧ n ≤ 18446744073709551615) ∧ KO w S ks a 0
def KO (w : World) (S : Nat → Prop) : List Tm → Option Addr → Nat → Prop
  | [], _, _ => True
  | k :: ks, a, i => (∃ A op f n b m c, a = some A ∧ (S A.block ∧ Whole w A) ∧ w.cell? (addK (addK A (i * 4)) 0) = some (.int .i8 op) ∧ w.cell? (addK (addK A (i * 4)) 1) = some (.int .i8 f) ∧ w.cell? (addK (addK A (i * 4)) 2) = some (.int .u64 n) ∧ w.cell? (addK (addK A (i * 4)) 3) = some (.slice b m c) ∧ TO w S k op f n b m c) ∧ KO w S ks a (i + 1)
end
theorem addK_block (A : Addr) (n : Nat) : (addK A n).block = A.block := by
  unfold addK Addr.add
  split <;> rfl
theorem cell_keepS {S S' : Nat → Prop} {w w' : World} {A : Addr} {v : Value} (h : w.cell? A = some v) (hc : Chg S' w w') (hs : ¬ S' A.block) : w'.cell? A = some v := by
  have hlt : A.block < w.heap.size := by
    rcases Nat.lt_or_ge A.block w.heap.size with h' | h'
    · exact h'
    · simp [World.cell?, Array.getElem?_eq_none h'] at h
  rw [← h]
  unfold World.cell?
  rw [hc.block _ hlt hs]
mutual
theorem TO.keep {S S' T : Nat → Prop} {w w' : World} (hc : Chg S' w w') (hs : ∀ b, S b → ¬ S' b) (ht : ∀ b, S b → T b) : ∀ {t : Tm} {op f n : Int} {a : Option Addr} {len c : Nat}, TO w S t op f n a len c → TO w' T t op f n a len c
  | .mk _ _ _ ks, op, f, n, a, len, c, h => by
    simp only [TO] at h ⊢
    exact ⟨h.1, h.2.1, h.2.2.1, h.2.2.2.1, h.2.2.2.2.1, h.2.2.2.2.2.1, h.2.2.2.2.2.2.1, KO.keep hc hs ht h.2.2.2.2.2.2.2⟩
theorem KO.keep {S S' T : Nat → Prop} {w w' : World} (hc : Chg S' w w') (hs : ∀ b, S b → ¬ S' b) (ht : ∀ b, S b → T b) : ∀ {ks : List Tm} {a : Option Addr} {i : Nat}, KO w S ks a i → KO w' T ks a i
  | [], _, _, _ => by simp only [KO]
  | k :: ks, a, i, h => by
    simp only [KO] at h ⊢
    obtain ⟨⟨A, op, f, n, b, m, c, h1, h0, h2, h3, h4, h5, h6⟩, h7⟩ := h
    exact ⟨⟨A, op, f, n, b, m, c, h1, ⟨ht _ h0.1, h0.2.chg hc (hs _ h0.1)⟩, cell_keepS (S := S) h2 hc (by rw [addK_block, addK_block]; exact hs _ h0.1), cell_keepS (S := S) h3 hc (by rw [addK_block, addK_block]; exact hs _ h0.1), cell_keepS (S := S) h4 hc (by rw [addK_block, addK_block]; exact hs _ h0.1), cell_keepS (S := S) h5 hc (by rw [addK_block, addK_block]; exact hs _ h0.1), TO.keep hc hs ht h6⟩, KO.keep hc hs ht h7⟩
end
mutual
theorem TO.is {S : Nat → Prop} {w : World} : ∀ {t : Tm} {op f n : Int} {a : Option Addr} {len c : Nat}, TO w S t op f n a len c → TVal w t op f n a len c
  | .mk _ _ _ ks, op, f, n, a, len, c, h => by
    simp only [TO] at h
    simp only [TVal]
    exact ⟨h.1, h.2.1, h.2.2.1, h.2.2.2.1, h.2.2.2.2.1, h.2.2.2.2.2.1, h.2.2.2.2.2.2.1, KO.is h.2.2.2.2.2.2.2⟩
theorem KO.is {S : Nat → Prop} {w : World} : ∀ {ks : List Tm} {a : Option Addr} {i : Nat}, KO w S ks a i → KsAt w ks a i
  | [], _, _, _ => by simp only [KsAt]
  | k :: ks, a, i, h => by
    simp only [KO] at h
    simp only [KsAt]
    obtain ⟨⟨A, op, f, n, b, m, c, h1, h0, h2, h3, h4, h5, h6⟩, h7⟩ := h
    exact ⟨⟨A, op, f, n, b, m, c, h1, h2, h3, h4, h5, TO.is h6⟩, KO.is h7⟩
end
/-- a value is a term whose kids lie in blocks of S -/
def V4.own (v : V4) (w : World) (S : Nat → Prop) (t : Tm) : Prop := TO w S t v.op v.f v.n v.b v.m v.c
theorem V4.own.keep {v : V4} {w w' : World} {S S' T : Nat → Prop} {t : Tm} (h : v.own w S t) (hc : Chg S' w w') (hs : ∀ b, S b → ¬ S' b) (ht : ∀ b, S b → T b) : v.own w' T t := TO.keep hc hs ht h
theorem V4.own.is {v : V4} {w : World} {S : Nat → Prop} {t : Tm} (h : v.own w S t) : v.is w t := TO.is h
theorem V4.own.keepN {v : V4} {w w' : World} {S : Nat → Prop} {t : Tm} (h : v.own w S t) (hc : Chg NoS w w') : v.own w' S t := h.keep hc (fun _ _ x => x) (fun _ x => x)
theorem V4.own.mono {v : V4} {w : World} {S T : Nat → Prop} {t : Tm} (h : v.own w S t) (ht : ∀ b, S b → T b) : v.own w T t := h.keep (Chg.refl NoS w) (fun _ _ x => x) ht
inductive VO (w : World) (S : Nat → Prop) : List V4 → List Tm → Prop
  | nil : VO w S [] []
  | cons {v : V4} {t : Tm} {vs : List V4} {ts : List Tm} : v.own w S t → VO w S vs ts → VO w S (v :: vs) (t :: ts)
theorem VO.keep {w w' : World} {S S' T : Nat → Prop} (hc : Chg S' w w') (hs : ∀ b, S b → ¬ S' b) (ht : ∀ b, S b → T b) : ∀ {vs : List V4} {ts : List Tm}, VO w S vs ts → VO w' T vs ts
  | _, _, .nil => .nil
  | _, _, .cons h r => .cons (h.keep hc hs ht) (VO.keep hc hs ht r)
theorem VO.keepN {w w' : World} {S : Nat → Prop} {vs : List V4} {ts : List Tm} (h : VO w S vs ts) (hc : Chg NoS w w') : VO w' S vs ts := h.keep hc (fun _ _ x => x) (fun _ x => x)
theorem VO.mono {w : World} {S T : Nat → Prop} {vs : List V4} {ts : List Tm} (h : VO w S vs ts) (ht : ∀ b, S b → T b) : VO w T vs ts := h.keep (Chg.refl NoS w) (fun _ _ x => x) ht
theorem VO.vs {w : World} {S : Nat → Prop} : ∀ {vs : List V4} {ts : List Tm}, VO w S vs ts → VS w vs ts
  | _, _, .nil => .nil
  | _, _, .cons h r => .cons h.is r.vs
theorem VO.len {w : World} {S : Nat → Prop} {vs : List V4} {ts : List Tm} (h : VO w S vs ts) : vs.length = ts.length := h.vs.len
theorem VO.append {w : World} {S : Nat → Prop} {vs us : List V4} {ts ss : List Tm} (h : VO w S vs ts) (k : VO w S us ss) : VO w S (vs ++ us) (ts ++ ss) := by
  induction h with
  | nil => exact k
  | cons h r ih => exact .cons h ih
theorem VO.get {w : World} {S : Nat → Prop} : ∀ {vs : List V4} {ts : List Tm}, VO w S vs ts → ∀ (j : Nat) (t : Tm), ts[j]? = some t → ∃ v, vs[j]? = some v ∧ v.own w S t
  | _, _, .nil, j, t, h => by simp at h
  | _, _, .cons h r, 0, t, ht => by
    simp only [List.getElem?_cons_zero, Option.some.injEq] at ht
    subst ht
    exact ⟨_, rfl, h⟩
  | _, _, .cons h r, j + 1, t, ht => by
    obtain ⟨v, h1, h2⟩ := r.get j t (by simpa using ht)
    exact ⟨v, by simpa using h1, h2⟩
/-- the row of kids -/
theorem KO.row {w : World} {S : Nat → Prop} : ∀ {ks : List Tm} {a : Option Addr} {i : Nat}, KO w S ks a i → ∃ us, VO w S us ks ∧ ∀ (j : Nat) (u : Value), (flat us)[j]? = some u → ∃ A, a = some A ∧ w.cell? (addK A (i * 4 + j)) = some u
  | [], a, i, _ => ⟨[], .nil, fun j u hu => by simp [flat] at hu⟩
  | k :: ks, a, i, h => by
    simp only [KO] at h
    obtain ⟨⟨A, op, f, n, b, m, c, rfl, h0, h2, h3, h4, h5, h6⟩, h7⟩ := h
    obtain ⟨us, h8, h9⟩ := h7.row
    refine ⟨⟨op, f, n, b, m, c⟩ :: us, .cons h6 h8, fun j u hu => ?_⟩
    have e : flat (⟨op, f, n, b, m, c⟩ :: us) = [.int .i8 op, .int .i8 f, .int .u64 n, .slice b m c] ++ flat us := rfl
    rw [e] at hu
    refine ⟨A, rfl, ?_⟩
    rw [addK_addK] at h2 h3 h4 h5
    match j, hu with
    | 0, hu => simp at hu; subst hu; exact h2
    | 1, hu => simp at hu; subst hu; exact h3
    | 2, hu => simp at hu; subst hu; exact h4
    | 3, hu => simp at hu; subst hu; exact h5
    | j + 4, hu =>
      obtain ⟨A', e', h10⟩ := h9 j u (by simpa using hu)
      cases e'
      rw [show i * 4 + (j + 4) = (i + 1) * 4 + j from by omega]
      exact h10
theorem V4.own.kids {v : V4} {w : World} {S : Nat → Prop} {t : Tm} (h : v.own w S t) : v.op = opS t ∧ v.m = (kidsS t).length ∧ ∃ us, VO w S us (kidsS t) ∧ Reads w v.b (flat us) := by
  obtain ⟨op, f, n, ks⟩ := t
  unfold V4.own at h
  simp only [TO] at h
  obtain ⟨us, h1, h2⟩ := h.2.2.2.2.2.2.2.row
  exact ⟨h.1, h.2.2.2.1, us, h1, fun j u hu => by have := h2 j u hu; rwa [Nat.zero_mul, Nat.zero_add] at this⟩
theorem KO.of {w : World} {S : Nat → Prop} {A : Addr} (hS : S A.block ∧ Whole w A) : ∀ {us : List V4} {ks : List Tm} {i : Nat}, VO w S us ks → (∀ (j : Nat) (u : Value), (flat us)[j]? = some u → w.cell? (addK A (i * 4 + j)) = some u) → KO w S ks (some A) i
  | _, _, _, .nil, _ => by simp only [KO]
  | v :: us, _, i, .cons h r, hr => by
    simp only [KO]
    have e : flat (v :: us) = [.int .i8 v.op, .int .i8 v.f, .int .u64 v.n, .slice v.b v.m v.c] ++ flat us := rfl
    rw [e] at hr
    refine ⟨⟨A, v.op, v.f, v.n, v.b, v.m, v.c, rfl, hS, by rw [addK_addK]; exact hr 0 _ rfl, by rw [addK_addK]; exact hr 1 _ rfl, by rw [addK_addK]; exact hr 2 _ rfl, by rw [addK_addK]; exact hr 3 _ rfl, h⟩, KO.of hS r fun j u hu => ?_⟩
    have := hr (j + 4) u (by simpa using hu)
    rwa [show i * 4 + (j + 4) = (i + 1) * 4 + j from by omega] at this
/-- a term over a row of the call's own -/
theorem own_mk {w : World} {S : Nat → Prop} {op f n : Int} {b : Option Addr} {m c : Nat} {us : List V4} {ks : List Tm} (h4 : -128 ≤ op ∧ op ≤ 127 ∧ -128 ≤ f ∧ f ≤ 127 ∧ 0 ≤ n ∧ n ≤ 18446744073709551615) (hm : m = ks.length) (hmc : m ≤ c) (hc : c ≤ 9223372036854775807)
    (h : VO w S us ks) (hr : Reads w b (flat us)) (hb : ∀ A, b = some A → S A.block ∧ Whole w A) : V4.own ⟨op, f, n, b, m, c⟩ w S (.mk op f n ks) := by
  unfold V4.own
  simp only [TO]
  refine ⟨trivial, trivial, trivial, hm, hmc, hc, h4, ?_⟩
  match us, ks, h with
  | _, _, .nil => simp only [KO]
  | v :: us, k :: ks, .cons h r =>
    obtain ⟨A, rfl, _⟩ := hr 0 (.int .i8 v.op) rfl
    refine KO.of (hb A rfl) (.cons h r) fun j u hu => ?_
    obtain ⟨A', e, h1⟩ := hr j u hu
    cases e
    rw [Nat.zero_mul, Nat.zero_add]
    exact h1
theorem own_bare (w : World) (S : Nat → Prop) {op : Int} (h : -128 ≤ op ∧ op ≤ 127) : V4.own ⟨op, 0, 0, none, 0, 0⟩ w S (bareS op) :=
  own_mk ⟨h.1, h.2, by omega, by omega, by omega, by omega⟩ rfl (by omega) (by omega) .nil (fun j u hu => by simp [flat] at hu) (fun A e => by cases e)
/-! ### variables that hold terms -/
theorem agg4 {v : V4} {K : Int → Int → Int → Option Addr → Nat → Nat → Prop} (hK : K v.op v.f v.n v.b v.m v.c) :
    ∃ vs, Value.agg v.arr = .agg (List.toArray vs) ∧ ∃ u rest, vs = u :: rest ∧ ∃ x, u = .int .i8 x ∧ ∃ u rest1, rest = u :: rest1 ∧ ∃ x1, u = .int .i8 x1 ∧ ∃ u rest, rest1 = u :: rest ∧ ∃ x2, u = .int .u64 x2 ∧ ∃ u rest2, rest = u :: rest2 ∧ ∃ a n c, u = .slice a n c ∧ rest2 = [] ∧ K x x1 x2 a n c :=
  ⟨_, rfl, _, _, rfl, _, rfl, _, _, rfl, _, rfl, _, _, rfl, _, rfl, _, _, rfl, _, _, _, rfl, rfl, hK⟩
end Go.Proofs.YtpolbdakhfcilaaGreatDoor.B
