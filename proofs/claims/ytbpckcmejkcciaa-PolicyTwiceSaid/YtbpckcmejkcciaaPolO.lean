/-
  Policies: terms whose memory is known to lie in certain blocks; what makes single terms.
-/
import Derived.Test.YtbpckcmejkcciaaPolM
import Derived.Test.YtbpckcmejkcciaaPolN
import Derived.Test.YtbpckcmejkcciaaBP
set_option linter.unusedVariables false
set_option linter.unusedSimpArgs false
namespace Go.Proofs.Ytbpckcmejkcciaa.B
open Go Go.Proofs Go.Proofs.YtbpckcmejkcciaaEng

abbrev V4.arr (v : V4) : Array Value := #[.int .i8 v.op, .int .i8 v.f, .int .u64 v.n, .slice v.b v.m v.c]
/-- A row stands at the beginning of a block that may be written. -/
def Whole (w : World) (A : Addr) : Prop := A.off = 0 ∧ A.spot = none ∧ ∃ cs t, w.heap[A.block]? = some (.cells cs t (0, 0))
theorem Whole.chg {S : Nat → Prop} {w w' : World} {A : Addr} (h : Whole w A) (hc : Chg S w w') (hs : ¬ S A.block) : Whole w' A := by
  obtain ⟨h1, h2, cs, t, h3⟩ := h
  exact ⟨h1, h2, cs, t, hc.blk h3 hs⟩
theorem whole_lit {w : World} {b : Nat} {cs : Array Value} {t : TypeId} (h : w.heap[b]? = some (.cells cs t (0, 0))) : Whole w ⟨b, 0, none⟩ := ⟨rfl, rfl, cs, t, h⟩
theorem own_whole {w : World} {base n c : Nat} {a : Option Addr} {xs : List Value} {e : TypeId} {size : Nat} (h : w.ownsRow base e size (.slice a n c) n xs) : ∀ A, a = some A → Whole w A := fun A hA => by
  subst hA
  rcases h.2 with ⟨he, h0⟩ | ⟨g, cap, cur, he, hg, hh, hn, hm, hsz, ht⟩
  · injection he with h1 _ _
    cases h1
  · injection he with h1 _ _
    cases h1
    exact whole_lit hh
mutual
/-- A term's four cells; its kids lie in blocks of S. -/
def TO (w : World) (S : Nat → Prop) : Tm → Int → Int → Int → Option Addr → Nat → Nat → Prop
  | .mk op f n ks, op', f', n', a, len, c => op' = op ∧ f' = f ∧ n' = n ∧ len = ks.length ∧ len ≤ c ∧ c ≤ 9223372036854775807 ∧ (-128 ≤ op ∧ op ≤ 127 ∧ -128 ≤ f ∧ f ≤ 127 ∧ 0 ≤ n ∧ n ≤ 18446744073709551615) ∧ KO w S ks a 0
def KO (w : World) (S : Nat → Prop) : List Tm → Option Addr → Nat → Prop
  | [], _, _ => True
  | k :: ks, a, i => (∃ A op f n b m c, a = some A ∧ (S A.block ∧ Whole w A) ∧ w.cell? (addK (addK A (i * 4)) 0) = some (.int .i8 op) ∧ w.cell? (addK (addK A (i * 4)) 1) = some (.int .i8 f) ∧ w.cell? (addK (addK A (i * 4)) 2) = some (.int .u64 n) ∧ w.cell? (addK (addK A (i * 4)) 3) = some (.slice b m c) ∧ TO w S k op f n b m c) ∧ KO w S ks a (i + 1)
end
theorem addK_block (A : Addr) (n : Nat) : (addK A n).block = A.block := by
  unfold addK Addr.add
  split <;> rfl
theorem cell_keepS {S S' : Nat → Prop} {w w' : World} {A : Addr} {v : Value} (h : w.cell? A = some v) (hc : Chg S' w w') (hs : ¬ S' A.block) : w'.cell? A = some v := by
  have hlt : A.block < w.heap.size := by
    rcases Nat.lt_or_ge A.block w.heap.size with h' | h'
    · exact h'
    · simp [World.cell?, Array.getElem?_eq_none h'] at h
  rw [← h]
  unfold World.cell?
  rw [hc.block _ hlt hs]
mutual
theorem TO.keep {S S' T : Nat → Prop} {w w' : World} (hc : Chg S' w w') (hs : ∀ b, S b → ¬ S' b) (ht : ∀ b, S b → T b) : ∀ {t : Tm} {op f n : Int} {a : Option Addr} {len c : Nat}, TO w S t op f n a len c → TO w' T t op f n a len c
  | .mk _ _ _ ks, op, f, n, a, len, c, h => by
    simp only [TO] at h ⊢
    exact ⟨h.1, h.2.1, h.2.2.1, h.2.2.2.1, h.2.2.2.2.1, h.2.2.2.2.2.1, h.2.2.2.2.2.2.1, KO.keep hc hs ht h.2.2.2.2.2.2.2⟩
theorem KO.keep {S S' T : Nat → Prop} {w w' : World} (hc : Chg S' w w') (hs : ∀ b, S b → ¬ S' b) (ht : ∀ b, S b → T b) : ∀ {ks : List Tm} {a : Option Addr} {i : Nat}, KO w S ks a i → KO w' T ks a i
  | [], _, _, _ => by simp only [KO]
  | k :: ks, a, i, h => by
    simp only [KO] at h ⊢
    obtain ⟨⟨A, op, f, n, b, m, c, h1, h0, h2, h3, h4, h5, h6⟩, h7⟩ := h
    exact ⟨⟨A, op, f, n, b, m, c, h1, ⟨ht _ h0.1, h0.2.chg hc (hs _ h0.1)⟩, cell_keepS (S := S) h2 hc (by rw [addK_block, addK_block]; exact hs _ h0.1), cell_keepS (S := S) h3 hc (by rw [addK_block, addK_block]; exact hs _ h0.1), cell_keepS (S := S) h4 hc (by rw [addK_block, addK_block]; exact hs _ h0.1), cell_keepS (S := S) h5 hc (by rw [addK_block, addK_block]; exact hs _ h0.1), TO.keep hc hs ht h6⟩, KO.keep hc hs ht h7⟩
end
mutual
theorem TO.is {S : Nat → Prop} {w : World} : ∀ {t : Tm} {op f n : Int} {a : Option Addr} {len c : Nat}, TO w S t op f n a len c → TVal w t op f n a len c
  | .mk _ _ _ ks, op, f, n, a, len, c, h => by
    simp only [TO] at h
    simp only [TVal]
    exact ⟨h.1, h.2.1, h.2.2.1, h.2.2.2.1, h.2.2.2.2.1, h.2.2.2.2.2.1, h.2.2.2.2.2.2.1, KO.is h.2.2.2.2.2.2.2⟩
theorem KO.is {S : Nat → Prop} {w : World} : ∀ {ks : List Tm} {a : Option Addr} {i : Nat}, KO w S ks a i → KsAt w ks a i
  | [], _, _, _ => by simp only [KsAt]
  | k :: ks, a, i, h => by
    simp only [KO] at h
    simp only [KsAt]
    obtain ⟨⟨A, op, f, n, b, m, c, h1, h0, h2, h3, h4, h5, h6⟩, h7⟩ := h
    exact ⟨⟨A, op, f, n, b, m, c, h1, h2, h3, h4, h5, TO.is h6⟩, KO.is h7⟩
end
/-- a value is a term whose kids lie in blocks of S -/
def V4.own (v : V4) (w : World) (S : Nat → Prop) (t : Tm) : Prop := TO w S t v.op v.f v.n v.b v.m v.c
theorem V4.own.keep {v : V4} {w w' : World} {S S' T : Nat → Prop} {t : Tm} (h : v.own w S t) (hc : Chg S' w w') (hs : ∀ b, S b → ¬ S' b) (ht : ∀ b, S b → T b) : v.own w' T t := TO.keep hc hs ht h
theorem V4.own.is {v : V4} {w : World} {S : Nat → Prop} {t : Tm} (h : v.own w S t) : v.is w t := TO.is h
theorem V4.own.keepN {v : V4} {w w' : World} {S : Nat → Prop} {t : Tm} (h : v.own w S t) (hc : Chg NoS w w') : v.own w' S t := h.keep hc (fun _ _ x => x) (fun _ x => x)
theorem V4.own.mono {v : V4} {w : World} {S T : Nat → Prop} {t : Tm} (h : v.own w S t) (ht : ∀ b, S b → T b) : v.own w T t := h.keep (Chg.refl NoS w) (fun _ _ x => x) ht
inductive VO (w : World) (S : Nat → Prop) : List V4 → List Tm → Prop
  | nil : VO w S [] []
  | cons {v : V4} {t : Tm} {vs : List V4} {ts : List Tm} : v.own w S t → VO w S vs ts → VO w S (v :: vs) (t :: ts)
theorem VO.keep {w w' : World} {S S' T : Nat → Prop} (hc : Chg S' w w') (hs : ∀ b, S b → ¬ S' b) (ht : ∀ b, S b → T b) : ∀ {vs : List V4} {ts : List Tm}, VO w S vs ts → VO w' T vs ts
  | _, _, .nil => .nil
  | _, _, .cons h r => .cons (h.keep hc hs ht) (VO.keep hc hs ht r)
theorem VO.keepN {w w' : World} {S : Nat → Prop} {vs : List V4} {ts : List Tm} (h : VO w S vs ts) (hc : Chg NoS w w') : VO w' S vs ts := h.keep hc (fun _ _ x => x) (fun _ x => x)
theorem VO.mono {w : World} {S T : Nat → Prop} {vs : List V4} {ts : List Tm} (h : VO w S vs ts) (ht : ∀ b, S b → T b) : VO w T vs ts := h.keep (Chg.refl NoS w) (fun _ _ x => x) ht
theorem VO.vs {w : World} {S : Nat → Prop} : ∀ {vs : List V4} {ts : List Tm}, VO w S vs ts → VS w vs ts
  | _, _, .nil => .nil
  | _, _, .cons h r => .cons h.is r.vs
theorem VO.len {w : World} {S : Nat → Prop} {vs : List V4} {ts : List Tm} (h : VO w S vs ts) : vs.length = ts.length := h.vs.len
theorem VO.append {w : World} {S : Nat → Prop} {vs us : List V4} {ts ss : List Tm} (h : VO w S vs ts) (k : VO w S us ss) : VO w S (vs ++ us) (ts ++ ss) := by
  induction h with
  | nil => exact k
  | cons h r ih => exact .cons h ih
theorem VO.get {w : World} {S : Nat → Prop} : ∀ {vs : List V4} {ts : List Tm}, VO w S vs ts → ∀ (j : Nat) (t : Tm), ts[j]? = some t → ∃ v, vs[j]? = some v ∧ v.own w S t
  | _, _, .nil, j, t, h => by simp at h
  | _, _, .cons h r, 0, t, ht => by
    simp only [List.getElem?_cons_zero, Option.some.injEq] at ht
    subst ht
    exact ⟨_, rfl, h⟩
  | _, _, .cons h r, j + 1, t, ht => by
    obtain ⟨v, h1, h2⟩ := r.get j t (by simpa using ht)
    exact ⟨v, by simpa using h1, h2⟩
/-- the row of kids -/
theorem KO.row {w : World} {S : Nat → Prop} : ∀ {ks : List Tm} {a : Option Addr} {i : Nat}, KO w S ks a i → ∃ us, VO w S us ks ∧ ∀ (j : Nat) (u : Value), (flat us)[j]? = some u → ∃ A, a = some A ∧ w.cell? (addK A (i * 4 + j)) = some u
  | [], a, i, _ => ⟨[], .nil, fun j u hu => by simp [flat] at hu⟩
  | k :: ks, a, i, h => by
    simp only [KO] at h
    obtain ⟨⟨A, op, f, n, b, m, c, rfl, h0, h2, h3, h4, h5, h6⟩, h7⟩ := h
    obtain ⟨us, h8, h9⟩ := h7.row
    refine ⟨⟨op, f, n, b, m, c⟩ :: us, .cons h6 h8, fun j u hu => ?_⟩
    have e : flat (⟨op, f, n, b, m, c⟩ :: us) = [.int .i8 op, .int .i8 f, .int .u64 n, .slice b m c] ++ flat us := rfl
    rw [e] at hu
    refine ⟨A, rfl, ?_⟩
    rw [addK_addK] at h2 h3 h4 h5
    match j, hu with
    | 0, hu => simp at hu; subst hu; exact h2
    | 1, hu => simp at hu; subst hu; exact h3
    | 2, hu => simp at hu; subst hu; exact h4
    | 3, hu => simp at hu; subst hu; exact h5
    | j + 4, hu =>
      obtain ⟨A', e', h10⟩ := h9 j u (by simpa using hu)
      cases e'
      rw [show i * 4 + (j + 4) = (i + 1) * 4 + j from by omega]
      exact h10
theorem V4.own.kids {v : V4} {w : World} {S : Nat → Prop} {t : Tm} (h : v.own w S t) : v.op = opS t ∧ v.m = (kidsS t).length ∧ ∃ us, VO w S us (kidsS t) ∧ Reads w v.b (flat us) := by
  obtain ⟨op, f, n, ks⟩ := t
  unfold V4.own at h
  simp only [TO] at h
  obtain ⟨us, h1, h2⟩ := h.2.2.2.2.2.2.2.row
  exact ⟨h.1, h.2.2.2.1, us, h1, fun j u hu => by have := h2 j u hu; rwa [Nat.zero_mul, Nat.zero_add] at this⟩
theorem KO.of {w : World} {S : Nat → Prop} {A : Addr} (hS : S A.block ∧ Whole w A) : ∀ {us : List V4} {ks : List Tm} {i : Nat}, VO w S us ks → (∀ (j : Nat) (u : Value), (flat us)[j]? = some u → w.cell? (addK A (i * 4 + j)) = some u) → KO w S ks (some A) i
  | _, _, _, .nil, _ => by simp only [KO]
  | v :: us, _, i, .cons h r, hr => by
    simp only [KO]
    have e : flat (v :: us) = [.int .i8 v.op, .int .i8 v.f, .int .u64 v.n, .slice v.b v.m v.c] ++ flat us := rfl
    rw [e] at hr
    refine ⟨⟨A, v.op, v.f, v.n, v.b, v.m, v.c, rfl, hS, by rw [addK_addK]; exact hr 0 _ rfl, by rw [addK_addK]; exact hr 1 _ rfl, by rw [addK_addK]; exact hr 2 _ rfl, by rw [addK_addK]; exact hr 3 _ rfl, h⟩, KO.of hS r fun j u hu => ?_⟩
    have := hr (j + 4) u (by simpa using hu)
    rwa [show i * 4 + (j + 4) = (i + 1) * 4 + j from by omega] at this
/-- a term over a row of the call's own -/
theorem own_mk {w : World} {S : Nat → Prop} {op f n : Int} {b : Option Addr} {m c : Nat} {us : List V4} {ks : List Tm} (h4 : -128 ≤ op ∧ op ≤ 127 ∧ -128 ≤ f ∧ f ≤ 127 ∧ 0 ≤ n ∧ n ≤ 18446744073709551615) (hm : m = ks.length) (hmc : m ≤ c) (hc : c ≤ 9223372036854775807)
    (h : VO w S us ks) (hr : Reads w b (flat us)) (hb : ∀ A, b = some A → S A.block ∧ Whole w A) : V4.own ⟨op, f, n, b, m, c⟩ w S (.mk op f n ks) := by
  unfold V4.own
  simp only [TO]
  refine ⟨trivial, trivial, trivial, hm, hmc, hc, h4, ?_⟩
  match us, ks, h with
  | _, _, .nil => simp only [KO]
  | v :: us, k :: ks, .cons h r =>
    obtain ⟨A, rfl, _⟩ := hr 0 (.int .i8 v.op) rfl
    refine KO.of (hb A rfl) (.cons h r) fun j u hu => ?_
    obtain ⟨A', e, h1⟩ := hr j u hu
    cases e
    rw [Nat.zero_mul, Nat.zero_add]
    exact h1
theorem own_bare (w : World) (S : Nat → Prop) {op : Int} (h : -128 ≤ op ∧ op ≤ 127) : V4.own ⟨op, 0, 0, none, 0, 0⟩ w S (bareS op) :=
  own_mk ⟨h.1, h.2, by omega, by omega, by omega, by omega⟩ rfl (by omega) (by omega) .nil (fun j u hu => by simp [flat] at hu) (fun A e => by cases e)
/-! ### variables that hold terms -/
theorem set4 {w wX : World} {g : Nat} (v : V4) {cs : Array Value} {K : World → Prop} (h : Mine w wX g cs 26) (hs : cs.size = 4) (hK : ∀ w', Mine w w' g v.arr 26 → Chg (OnlyB g) wX w' → K w') :
    setW wX (addK ⟨g, 0, none⟩ 0) (.int .i8 v.op) fun w1 => setW w1 (addK ⟨g, 0, none⟩ 1) (.int .i8 v.f) fun w2 => setW w2 (addK ⟨g, 0, none⟩ 2) (.int .u64 v.n) fun w3 => setW w3 (addK ⟨g, 0, none⟩ 3) (.slice v.b v.m v.c) K := by
  simp only [addK_lit, Nat.zero_add]
  refine setW_blk h.1 (by omega) rfl fun w1 b1 c1 _ => ?_
  refine setW_blk b1 (by simp; omega) rfl fun w2 b2 c2 _ => ?_
  refine setW_blk b2 (by simp; omega) rfl fun w3 b3 c3 _ => ?_
  refine setW_blk b3 (by simp; omega) rfl fun w4 b4 c4 _ => ?_
  have hc := ((c1.trans c2).trans c3).trans c4
  refine hK w4 ⟨?_, h.2.1.trans2 hc (fun k hk e => by have : k = g := e; have := h.2.2; omega), h.2.2⟩ hc
  have e : (((cs.setIfInBounds 0 (.int .i8 v.op)).setIfInBounds 1 (.int .i8 v.f)).setIfInBounds 2 (.int .u64 v.n)).setIfInBounds 3 (.slice v.b v.m v.c) = v.arr := by
    obtain ⟨l⟩ := cs
    match l, hs with
    | [a, b, c, d], _ => rfl
  rw [← e]
  exact b4
theorem get4 {w wX : World} {g : Nat} {v : V4} {K : Int → Int → Int → Option Addr → Nat → Nat → Prop} (h : Mine w wX g v.arr 26) (hK : K v.op v.f v.n v.b v.m v.c) :
    ∃ x, wX.cell? (addK ⟨g, 0, none⟩ 0) = some (.int .i8 x) ∧ ∃ x1, wX.cell? (addK ⟨g, 0, none⟩ 1) = some (.int .i8 x1) ∧ ∃ x2, wX.cell? (addK ⟨g, 0, none⟩ 2) = some (.int .u64 x2) ∧ ∃ a n c, wX.cell? (addK ⟨g, 0, none⟩ 3) = some (.slice a n c) ∧ K x x1 x2 a n c :=
  ⟨_, (mine_cell h 0).trans rfl, _, (mine_cell h 1).trans rfl, _, (mine_cell h 2).trans rfl, _, _, _, (mine_cell h 3).trans rfl, hK⟩
/-- a term that a call gives back, taken apart -/
theorem agg4 {v : V4} {K : Int → Int → Int → Option Addr → Nat → Nat → Prop} (hK : K v.op v.f v.n v.b v.m v.c) :
    ∃ vs, Value.agg v.arr = .agg (List.toArray vs) ∧ ∃ u rest, vs = u :: rest ∧ ∃ x, u = .int .i8 x ∧ ∃ u rest1, rest = u :: rest1 ∧ ∃ x1, u = .int .i8 x1 ∧ ∃ u rest, rest1 = u :: rest ∧ ∃ x2, u = .int .u64 x2 ∧ ∃ u rest2, rest = u :: rest2 ∧ ∃ a n c, u = .slice a n c ∧ rest2 = [] ∧ K x x1 x2 a n c :=
  ⟨_, rfl, _, _, rfl, _, rfl, _, _, rfl, _, rfl, _, _, rfl, _, rfl, _, _, rfl, _, _, _, rfl, rfl, hK⟩
/-- what comes back is this term, in new blocks -/
def RetT (w : World) (t : Tm) (r : Value) (w' : World) : Prop := ∃ u : V4, r = .agg u.arr ∧ u.own w' (fun b => w.heap.size ≤ b) t ∧ Chg NoS w w'
theorem Bare_ok (w : World) {op : Int} (h : -128 ≤ op ∧ op ≤ 127) : Calls Try.prog 44 #[.int .i8 op] w (endW (RetT w (bareS op)) (fun _ _ => False)) := by
  refine F44_calls op ?_
  delta F44
  refine set4 ⟨op, 0, 0, none, 0, 0⟩ (mine_alloc (Chg.refl NoS w) _ _) rfl ?_
  intro w1 hM hc
  refine get4 hM ?_
  exact ⟨⟨op, 0, 0, none, 0, 0⟩, rfl, own_bare _ _ h, hM.2.1⟩
theorem Filter_ok (w : World) {op : Int} (h : -128 ≤ op ∧ op ≤ 127) : Calls Try.prog 45 #[.int .i8 op] w (endW (RetT w (filS op)) (fun _ _ => False)) := by
  refine F45_calls op ?_
  delta F45
  have hM0 := mine_alloc (Chg.refl NoS w) #[.int .i8 0, .int .i8 0, .int .u64 0, .slice none 0 0] 26
  generalize w.alloc (.cells #[.int .i8 0, .int .i8 0, .int .u64 0, .slice none 0 0] 26) = w1 at *
  have hb := blk_alloc w1 (.cells #[.int .i8 op, .int .i8 0, .int .u64 0, .slice none 0 0] 26)
  have hM1 := hM0.keep (chg_alloc w1 (.cells #[.int .i8 op, .int .i8 0, .int .u64 0, .slice none 0 0] 26) NoS)
  have hlt := lt_of_blk hM0.1
  generalize w1.alloc (.cells #[.int .i8 op, .int .i8 0, .int .u64 0, .slice none 0 0] 26) = w2 at *
  refine set4 ⟨6, 0, 0, some ⟨w1.heap.size, 0, none⟩, 1, 1⟩ hM1 rfl ?_
  intro w3 hM hc
  refine get4 hM ?_
  have hb3 := hc.blk hb (fun e => by have : w1.heap.size = w.heap.size := e; omega)
  refine ⟨⟨6, 0, 0, some ⟨w1.heap.size, 0, none⟩, 1, 1⟩, rfl, ?_, hM.2.1⟩
  exact own_mk (us := [⟨op, 0, 0, none, 0, 0⟩]) ⟨by omega, by omega, by omega, by omega, by omega, by omega⟩ rfl (by omega) (by omega) (.cons (own_bare _ _ h) .nil) (reads_lit hb3) (fun A e => by cases e; exact ⟨hM0.2.1.size, whole_lit hb3⟩)
theorem Says_ok {w : World} {t : Tm} {v : V4} {op : Int} (hv : v.is w t) (hk : opS t = 6 → kidsS t ≠ []) : Calls Try.prog 52 #[.agg v.arr, .int .i8 op] w (endW (fun r w' => r = .bool (saysS t op) ∧ Chg NoS w w') (fun _ _ => False)) := by
  refine F52_calls v.op v.f v.n v.b v.m v.c op ?_
  delta F52
  have hP := mine_alloc (Chg.refl NoS w) v.arr 26
  generalize w.alloc (.cells v.arr 26) = w1 at *
  obtain ⟨ks, rfl, hlen, hmc, hcm, hrng, hget⟩ := TVal.parts hv
  refine ⟨_, (mine_cell hP 0).trans rfl, ?_⟩
  by_cases h1 : v.op = op
  · rw [if_neg (by simp [h1])]
    refine ⟨?_, hP.2.1⟩
    simp [saysS, opS, h1]
  rw [if_pos (by simp [h1])]
  refine ⟨_, (mine_cell hP 0).trans rfl, ?_⟩
  by_cases h6 : v.op = 6
  · rw [if_pos (by simp [h6])]
    refine ⟨_, _, _, (mine_cell hP 3).trans rfl, ?_⟩
    match ks, hk h6, hget, hlen with
    | k :: ks, _, hget, hlen =>
      obtain ⟨A, hA, hT⟩ := hget 0 k rfl
      obtain ⟨o2, f2, n2, b2, m2, c2, g0, _, _, _, gv⟩ := hT.keep hP.2.1
      rw [hA, wSome_some]
      refine ⟨by omega, by simp [hlen], o2, g0, ?_, hP.2.1⟩
      obtain ⟨_, rfl, _⟩ := TVal.parts gv
      simp only [saysS, opS, kidsS, h1, h6]
      by_cases h7 : o2 = op <;> simp [h7, h6 ▸ h1]
  · rw [if_neg (by simp [h6])]
    refine ⟨?_, hP.2.1⟩
    simp [saysS, opS, h1, h6]
end Go.Proofs.Ytbpckcmejkcciaa.B
