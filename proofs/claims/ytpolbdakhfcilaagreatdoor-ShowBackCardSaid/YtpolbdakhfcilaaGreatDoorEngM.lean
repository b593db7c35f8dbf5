/-
  Memory, as the clean form of the walk meets it: what a step leaves as it was, rows that are the call's own, appends, copies.
-/
import Derived.Test.YtpolbdakhfcilaaGreatDoorEngF
import Derived.Deep.AppendSrc
import Derived.Laws.AppendOwn
import Derived.Maps.AppendAt
import Derived.Below
namespace Go.Proofs.YtpolbdakhfcilaaGreatDoorEng
open Go
set_option linter.unusedSimpArgs false
set_option linter.unusedVariables false
variable {P : Program}

/-- From w to w' nothing has changed but blocks of S and what is new. -/
structure Chg (S : Nat → Prop) (w w' : World) : Prop where
  os : w'.os = w.os
  tape : w'.tape = w.tape
  output : w'.output = w.output
  size : w.heap.size ≤ w'.heap.size
  block : ∀ k, k < w.heap.size → ¬ S k → w'.heap[k]? = w.heap[k]?
def NoS : Nat → Prop := fun _ => False
def OnlyB (b : Nat) : Nat → Prop := fun k => k = b
theorem Chg.refl (S : Nat → Prop) (w : World) : Chg S w w := ⟨rfl, rfl, rfl, Nat.le_refl _, fun _ _ _ => rfl⟩
theorem Chg.trans {S : Nat → Prop} {a b c : World} (h : Chg S a b) (k : Chg S b c) : Chg S a c :=
  ⟨k.os.trans h.os, k.tape.trans h.tape, k.output.trans h.output, Nat.le_trans h.size k.size, fun i hi hs => (k.block i (Nat.lt_of_lt_of_le hi h.size) hs).trans (h.block i hi hs)⟩
theorem Chg.trans2 {S T : Nat → Prop} {a b c : World} (h : Chg S a b) (k : Chg T b c) (ht : ∀ i, i < a.heap.size → T i → S i) : Chg S a c :=
  ⟨k.os.trans h.os, k.tape.trans h.tape, k.output.trans h.output, Nat.le_trans h.size k.size, fun i hi hs => (k.block i (Nat.lt_of_lt_of_le hi h.size) (fun x => hs (ht i hi x))).trans (h.block i hi hs)⟩
theorem Chg.mono {S T : Nat → Prop} {a b : World} (h : Chg S a b) (hs : ∀ k, k < a.heap.size → S k → T k) : Chg T a b := ⟨h.os, h.tape, h.output, h.size, fun i hi ht => h.block i hi (fun x => ht (hs i hi x))⟩
theorem Chg.blk {S : Nat → Prop} {w w' : World} (h : Chg S w w') {b : Nat} {o : Obj} (hb : w.heap[b]? = some o) (hs : ¬ S b) : w'.heap[b]? = some o := by
  have hlt : b < w.heap.size := (Array.getElem?_eq_some_iff.1 hb).1
  rw [h.block b hlt hs]; exact hb
theorem lt_of_blk {w : World} {b : Nat} {o : Obj} (hb : w.heap[b]? = some o) : b < w.heap.size := (Array.getElem?_eq_some_iff.1 hb).1
theorem Chg.sameOld {w w' : World} (h : Chg NoS w w') : SameOld w w' := ⟨h.size, fun b hb => h.block b hb (fun x => x)⟩
theorem Chg.below {S : Nat → Prop} {w w' : World} {B : Nat} (h : Chg S w w') (hB : B ≤ w.heap.size) (hs : ∀ k, k < B → ¬ S k) : RowKit.Below B w w' :=
  ⟨h.os, h.tape, h.output, h.size, fun k hk => h.block k (Nat.lt_of_lt_of_le hk hB) (hs k hk)⟩
theorem chg_drew (w : World) (S : Nat → Prop) : Chg S w w.drew := ⟨rfl, rfl, rfl, Nat.le_refl _, fun _ _ _ => rfl⟩
theorem chg_alloc (w : World) (o : Obj) (S : Nat → Prop) : Chg S w (w.alloc o) :=
  ⟨rfl, rfl, rfl, by show w.heap.size ≤ (w.heap.push o).size; simp, fun k hk _ => by show (w.heap.push o)[k]? = w.heap[k]?; simp [Array.getElem?_push, Nat.ne_of_lt hk]⟩
theorem blk_alloc (w : World) (o : Obj) : (w.alloc o).heap[w.heap.size]? = some o := by show (w.heap.push o)[w.heap.size]? = some o; simp
theorem size_alloc (w : World) (o : Obj) : (w.alloc o).heap.size = w.heap.size + 1 := by show (w.heap.push o).size = _; simp
theorem size_drew (w : World) : w.drew.heap.size = w.heap.size := rfl
theorem heap_drew (w : World) : w.drew.heap = w.heap := rfl
theorem Chg.of_drew {S : Nat → Prop} {w w' : World} (h : Chg S w.drew w') : Chg S w w' := (chg_drew w S).trans h

theorem cell_blk {w : World} {b : Nat} {cs : Array Value} {t : TypeId} {fr : Nat × Nat} (h : w.heap[b]? = some (.cells cs t fr)) (i : Nat) : w.cell? ⟨b, i, none⟩ = cs[i]? := by
  simp [World.cell?, h]
theorem frozen_blk {w : World} {b : Nat} {cs : Array Value} {t : TypeId} (h : w.heap[b]? = some (.cells cs t (0, 0))) (i : Nat) (s : Option Nat) : w.frozen? ⟨b, i, s⟩ = false := by
  simp [World.frozen?, h]
theorem addK_lit (b i k : Nat) : addK ⟨b, i, none⟩ k = ⟨b, i + k, none⟩ := by
  unfold addK Addr.add
  by_cases h : k = 0 <;> simp [h]
theorem addK_zero (A : Addr) : addK A 0 = A := by simp [addK, Addr.add]
theorem addK_addK (A : Addr) (m n : Nat) : addK (addK A m) n = addK A (m + n) := by
  unfold addK Addr.add
  by_cases h : m = 0 <;> by_cases h2 : n = 0 <;> simp [h, h2, Nat.add_assoc]

theorem chg_setCell (w : World) (b i : Nat) (v : Value) : Chg (OnlyB b) w (w.setCell ⟨b, i, none⟩ v) :=
  ⟨rfl, rfl, rfl, by simp [World.setCell], fun k hk hs => by
    have : ¬ b = k := fun e => hs e.symm
    simp [World.setCell, Array.getElem?_modify, this]⟩
theorem blk_setCell {w : World} {b : Nat} {cs : Array Value} {t : TypeId} {fr : Nat × Nat} (h : w.heap[b]? = some (.cells cs t fr)) (i : Nat) (v : Value) :
    (w.setCell ⟨b, i, none⟩ v).heap[b]? = some (.cells (cs.setIfInBounds i v) t fr) := by
  simp [World.setCell, Array.getElem?_modify, h]
theorem size_setCell (w : World) (a : Addr) (v : Value) : (w.setCell a v).heap.size = w.heap.size := by simp [World.setCell]
/-- A store into a block that is known. -/
theorem setW_blk {w : World} {b i : Nat} {cs : Array Value} {t : TypeId} {v : Value} {K : World → Prop} (h : w.heap[b]? = some (.cells cs t (0, 0))) (hi : i < cs.size) (hv : oneC v = true)
    (hK : ∀ w', w'.heap[b]? = some (.cells (cs.setIfInBounds i v) t (0, 0)) → Chg (OnlyB b) w w' → w'.heap.size = w.heap.size → K w') : setW w ⟨b, i, none⟩ v K :=
  ⟨hv, by rw [cell_blk h]; simp [hi], frozen_blk h i none, hK _ (blk_setCell h i v) (chg_setCell w b i v) (size_setCell w _ v)⟩

/-! ### rows of the call's own -/
theorem own_of_chg {S : Nat → Prop} {w w' : World} {base : Nat} {e : TypeId} {size n : Nat} {v : Value} {xs : List Value} (h : w.ownsRow base e size v n xs) (hc : Chg S w w') (hs : ∀ k, v.ownBlock = some k → ¬ S k) : w'.ownsRow base e size v n xs := by
  obtain ⟨h1, h2⟩ := h
  refine ⟨h1, ?_⟩
  rcases h2 with h2 | ⟨g, cap, cur, rfl, hg, hh, r⟩
  · exact .inl h2
  · exact .inr ⟨g, cap, cur, rfl, hg, hc.blk hh (hs g rfl), r⟩
theorem own_lt' {w : World} {base : Nat} {e : TypeId} {size n : Nat} {v : Value} {xs : List Value} (h : w.ownsRow base e size v n xs) {k : Nat} (hk : v.ownBlock = some k) : k < w.heap.size ∧ base ≤ k := by
  rcases h.2 with ⟨rfl, _⟩ | ⟨g, cap, cur, rfl, hg, hh, r⟩
  · simp [Value.ownBlock] at hk
  · have : g = k := by simpa [Value.ownBlock] using hk
    subst this
    exact ⟨lt_of_blk hh, hg⟩
theorem own_base' {w : World} {base base' : Nat} {e : TypeId} {size n : Nat} {v : Value} {xs : List Value} (h : w.ownsRow base e size v n xs) (hb : ∀ k, v.ownBlock = some k → base' ≤ k) : w.ownsRow base' e size v n xs := by
  obtain ⟨h1, h2⟩ := h
  refine ⟨h1, ?_⟩
  rcases h2 with h2 | ⟨g, cap, cur, rfl, hg, hh, r⟩
  · exact .inl h2
  · exact .inr ⟨g, cap, cur, rfl, hb g rfl, hh, r⟩
theorem own_nil' (w : World) (base : Nat) (e : TypeId) (size : Nat) : w.ownsRow base e size (.slice none 0 0) 0 [] := ⟨by simp, .inl ⟨rfl, rfl⟩⟩
/-- What an owned row's value is. -/
theorem own_form {w : World} {base : Nat} {e : TypeId} {size n : Nat} {v : Value} {xs : List Value} (h : w.ownsRow base e size v n xs) :
    ∃ (a : Option Addr) (c : Nat), v = .slice a n c ∧ n ≤ c ∧ (∀ A, a = some A → ∃ g, A = ⟨g, 0, none⟩) := by
  rcases h.2 with ⟨rfl, rfl⟩ | ⟨g, cap, cur, rfl, hg, hh, hn, r⟩
  · exact ⟨none, 0, rfl, Nat.le_refl _, fun A h => by cases h⟩
  · exact ⟨_, cap, rfl, hn, fun A h => by cases h; exact ⟨g, rfl⟩⟩
theorem own_cell {w : World} {base : Nat} {e : TypeId} {size n : Nat} {a : Option Addr} {c : Nat} {xs : List Value} (h : w.ownsRow base e size (.slice a n c) n xs) {j : Nat} {u : Value} (hu : xs[j]? = some u) :
    ∃ A, a = some A ∧ w.cell? (addK A j) = some u := by
  rcases h.2 with ⟨he, h0⟩ | ⟨g, cap, cur, he, hg, hh, hn, hm, hsz, ht⟩
  · have : xs = [] := List.eq_nil_of_length_eq_zero (by rw [h.1, h0]; simp)
    subst this
    simp at hu
  · injection he with he1 he2 he3
    refine ⟨⟨g, 0, none⟩, he1, ?_⟩
    rw [addK_lit, cell_blk hh]
    rw [← ht, List.getElem?_take] at hu
    split at hu
    · rw [Nat.zero_add, ← Array.getElem?_toList]; exact hu
    · cases hu

/-- What a slice that is read leads to. -/
def Reads (w : World) (a : Option Addr) (cs : List Value) : Prop := ∀ j u, cs[j]? = some u → ∃ A, a = some A ∧ w.cell? (addK A j) = some u
theorem Reads.chg {S : Nat → Prop} {w w' : World} {a : Option Addr} {cs : List Value} (h : Reads w a cs) (hc : Chg S w w') (hs : ∀ A, a = some A → ¬ S A.block) : Reads w' a cs := by
  intro j u hu
  obtain ⟨A, hA, hcell⟩ := h j u hu
  refine ⟨A, hA, ?_⟩
  have hb : (addK A j).block = A.block := by unfold addK Addr.add; split <;> rfl
  unfold World.cell? at hcell ⊢
  have hlt : (addK A j).block < w.heap.size := by
    rcases Nat.lt_or_ge (addK A j).block w.heap.size with h' | h'
    · exact h'
    · simp [Array.getElem?_eq_none h'] at hcell
  rw [hc.block _ hlt (by rw [hb]; exact hs A hA)]
  exact hcell
theorem own_reads' {w : World} {base : Nat} {e : TypeId} {size n : Nat} {a : Option Addr} {c : Nat} {xs : List Value} (h : w.ownsRow base e size (.slice a n c) n xs) : Reads w a xs := fun j u hu => own_cell h hu

/-- what is appended -/
theorem src_slice {w : World} {size : Nat} {tx e' : TypeId} (hk : P.underlying tx = some (.slice e')) {a : Option Addr} {m c : Nat} {news : List Value} (hl : news.length = m * size) (hr : Reads w a news) (hn : a = none → m = 0) (h1 : ∀ u ∈ news, u.oneCell' = true) :
    Src P size tx (.slice a m c) m news w := by
  cases a with
  | none =>
    have h0 := hn rfl
    subst h0
    have : news = [] := List.eq_nil_of_length_eq_zero (by simpa using hl)
    subst this
    exact Src.ofNil w hk c
  | some A =>
    refine Src.ofSlice w hk A m c news hl (fun j u hu => ?_) h1
    obtain ⟨A', e, h⟩ := hr j u hu
    cases e
    exact h

theorem setCells_blk {b : Nat} {t : TypeId} {fr : Nat × Nat} (vs : List Value) : ∀ (off : Nat) (cs : Array Value) (w : World), w.heap[b]? = some (.cells cs t fr) → off + vs.length ≤ cs.size →
    ∃ cs', (w.setCells b off vs).heap[b]? = some (.cells cs' t fr) ∧ cs'.toList = cs.toList.take off ++ vs ++ cs.toList.drop (off + vs.length) ∧ Chg (OnlyB b) w (w.setCells b off vs) ∧ (w.setCells b off vs).heap.size = w.heap.size := by
  induction vs with
  | nil => exact fun off cs w h hl => ⟨cs, h, by simp, Chg.refl _ _, rfl⟩
  | cons v vs ih =>
    intro off cs w h hl
    simp only [List.length_cons] at hl
    obtain ⟨cs', h1, h2, h3, h4⟩ := ih (off + 1) (cs.setIfInBounds off v) (w.setCell ⟨b, off, none⟩ v) (blk_setCell h off v) (by simp; omega)
    refine ⟨cs', h1, ?_, (chg_setCell w b off v).trans h3, h4.trans (size_setCell w _ v)⟩
    rw [h2]
    have hlt : off < cs.toList.length := by simp; omega
    simp only [Array.toList_setIfInBounds, List.length_cons]
    apply List.ext_getElem?
    intro j
    simp only [List.getElem?_append, List.length_take, List.length_append, List.length_set, List.length_cons, List.getElem?_take, List.getElem?_set, List.getElem?_drop, List.getElem?_cons]
    have hl2 : cs.toList.length = cs.size := by simp
    simp only [hl2] at *
    have hm1 : min (off + 1) cs.size = off + 1 := by omega
    have hm2 : min off cs.size = off := by omega
    rw [hm1, hm2]
    by_cases h1 : j < off
    · simp [h1, show j < off + 1 from by omega, show j < off + 1 + vs.length from by omega, show j < off + (vs.length + 1) from by omega, show ¬ off = j from by omega]
    · by_cases h2 : j = off
      · subst h2
        simp [show j < j + 1 + vs.length from by omega, show j < j + (vs.length + 1) from by omega, hlt]
      · by_cases h3 : j < off + 1 + vs.length
        · obtain ⟨k, rfl⟩ : ∃ k, j = off + 1 + k := ⟨j - off - 1, by omega⟩
          simp [show ¬ off + 1 + k < off from by omega, show ¬ off + 1 + k < off + 1 from by omega, h3, show off + 1 + k < off + (vs.length + 1) from by omega, show off + 1 + k - off = k + 1 from by omega]
        · simp [show ¬ j < off + 1 + vs.length from h3, show ¬ j < off + (vs.length + 1) from by omega, show ¬ off = off + 1 + vs.length + (j - (off + 1 + vs.length)) from by omega]
          congr 1
          omega

theorem nextcap_le (need old bytes : Nat) (h : need * bytes ≤ 140737488355328) (hlt : old < need) : Builtin.nextslicecap need old * bytes ≤ 281474976710656 := by
  unfold Builtin.nextslicecap
  split
  · omega
  · rename_i h1
    split
    · have : 2 * old * bytes ≤ 2 * need * bytes := Nat.mul_le_mul_right _ (by omega)
      have e : 2 * need * bytes = 2 * (need * bytes) := Nat.mul_assoc _ _ _
      omega
    · have key : ∀ (r c : Nat), c < 2 * need → 256 ≤ c → Builtin.growBy need r c ≤ 2 * need := by
        intro r
        induction r with
        | zero => intro c hc _; simp [Builtin.growBy]; omega
        | succ r ih =>
          intro c hc h256
          simp only [Builtin.growBy]
          split
          · omega
          · rename_i hn
            by_cases hb : c + (c + 768) / 4 < 2 * need
            · exact ih _ hb (by omega)
            · omega
      have := key 4 old (by omega) (by omega)
      have h2 : Builtin.growBy need 4 old * bytes ≤ 2 * need * bytes := Nat.mul_le_mul_right _ this
      have e : 2 * need * bytes = 2 * (need * bytes) := Nat.mul_assoc _ _ _
      omega

theorem grownCap_ge' (w : World) (need old : Nat) (e : TypeId) : need ≤ grownCap w need old e := grownCap_ge w need old e

/-- append, to a row of the call's own. -/
theorem append_own {t tx ty e : TypeId} {i : TypeInfo} {z : Value} {base n m size : Nat} {v x : Value} {xs news : List Value} {w : World} {K : Value → World → Prop} {E : PanW}
    (ht : P.underlying t = some (.slice e)) (hi : P.info? e = some i) (hz : i.zero = some z) (hsz : i.size = size) (hzs : z.cells.size = size)
    (hown : w.ownsRow base e size v n xs) (hs : Src P size tx x m news w) (hb : (n + m) * i.bytes ≤ 140737488355328) (hl : n + m ≤ 140737488355328) (hbase : base ≤ w.heap.size)
    (h : ∀ v' w', w'.ownsRow base e size v' (n + m) (xs ++ news) → Chg (fun k => v.ownBlock = some k) w w' → (v'.ownBlock = v.ownBlock ∨ v'.ownBlock = some w.heap.size) → (v'.ownBlock = none → v' = v ∧ w' = w) → K v' w') :
    runV P (Builtin.append_ #[t, tx] ty #[v, x]) w K E := by
  subst hsz
  have hlen : (xs ++ news).length = (n + m) * i.size := by rw [List.length_append, hown.1, hs.newsLen, Nat.add_mul]
  have hgrow : ∀ (ao : Option Addr) (old : Nat), v = .slice ao n old → old < n + m → (Builtin.firstCells i.size n v).run P w.drew = .ok xs.toArray w.drew → runV P (Builtin.append_ #[t, tx] ty #[v, x]) w K E := by
    intro ao old hv hlt hold
    subst hv
    have hr := run_append_grow_src (P := P) w t tx ty e i z ht hi hz ao n old xs hold x m news hs hlt (by omega) (nextcap_le _ _ _ hb hlt)
    unfold runV
    rw [hr]
    have hge := grownCap_ge w (n + m) old e
    have hcm : grownCap w (n + m) old e ≤ maxLen := grownCap_le_maxLen w (n + m) old e (by simp only [maxLen]; omega)
    refine h _ _ ⟨hlen, .inr ⟨w.heap.size, _, _, rfl, hbase, blk_alloc w.drew _, hge, hcm, ?_, ?_⟩⟩ ((chg_drew w _).trans (chg_alloc _ _ _)) (.inr rfl) (fun e => by simp [Value.ownBlock] at e)
    · simp only [Array.size_append, List.size_toArray, List.length_append, size_zeroCells, hzs, hown.1, hs.newsLen, ← Nat.add_mul]
      congr 1
      omega
    · simp only [Array.toList_append]
      rw [← hlen]
      exact List.take_left
  rcases hown.2 with ⟨rfl, rfl⟩ | ⟨g, cap, cur, rfl, hbg, hg, hnc, hcm, hcs, htake⟩
  · have hx : xs = [] := List.eq_nil_of_length_eq_zero (by simpa using hown.1)
    subst hx
    by_cases hm : m = 0
    · subst hm
      have hn : news = [] := List.eq_nil_of_length_eq_zero (by simpa using hs.newsLen)
      subst hn
      have hr : (Builtin.append_ #[t, tx] ty #[.slice none 0 0, x]).run P w = .ok (.slice none 0 0) w := by
        rcases hs.kind with ⟨e', hk⟩ | hk <;> simp [Builtin.append_, run_underlying ht, run_underlying hk, sizeOf, typeInfo, hi, hs.len, hs.cells]
      unfold runV
      rw [hr]
      exact h _ _ (World.ownsRow_nil w base e i.size) (Chg.refl _ _) (.inl rfl) (fun _ => ⟨rfl, rfl⟩)
    · exact hgrow none 0 rfl (by omega) (by simp [Builtin.firstCells])
  · by_cases hroom : n + m ≤ cap
    · have hfit : n * i.size + news.length ≤ cur.size := by rw [hs.newsLen, hcs, ← Nat.add_mul]; exact Nat.mul_le_mul_right _ hroom
      have hr := run_append_room_src (P := P) w t tx ty e i ht hi g 0 n cap x m news hs hroom
        (fun j hj => by rw [cell_blk hg]; simp; omega) (fun j hj => frozen_blk hg _ none)
      unfold runV
      rw [hr]
      simp only [Nat.zero_add]
      obtain ⟨cs', h1, h2, h3, h4⟩ := setCells_blk news (n * i.size) cur w hg hfit
      refine h _ _ ⟨hlen, .inr ⟨g, cap, cs', rfl, hbg, h1, hroom, hcm, ?_, ?_⟩⟩ (h3.mono fun k _ hk => by rw [show k = g from hk]; rfl) (.inl rfl) (fun e => by simp [Value.ownBlock] at e)
      · have := congrArg List.length h2
        simp only [Array.length_toList, List.length_append, List.length_take, List.length_drop] at this
        omega
      · rw [h2, htake, ← hlen]
        exact List.take_left
    · refine hgrow (some ⟨g, 0, none⟩) cap rfl (by omega) ?_
      refine run_firstCells_some w.drew i.size n ⟨g, 0, none⟩ n cap xs hown.1 fun j u hu => ?_
      obtain ⟨A, hA, hc⟩ := own_cell hown hu
      cases hA
      exact hc

/-- copy(x[k:], x[k+1:]): what stands behind k moves one down. -/
theorem copy_shift {t ty e : TypeId} {i : TypeInfo} {base n size g c k : Nat} {xs : List Value} {w : World} {K : Value → World → Prop} {E : PanW}
    (ht : P.underlying t = some (.slice e)) (hi : P.info? e = some i) (hsz : i.size = size)
    (hown : w.ownsRow base e size (.slice (some ⟨g, 0, none⟩) n c) n xs) (hk : k < n) (h1 : ∀ u ∈ xs, u.oneCell' = true) {d s : Option Addr} {dc sc : Nat}
    (hd : d = some ⟨g, k * size, none⟩) (hs : n = k + 1 ∨ s = some ⟨g, (k + 1) * size, none⟩)
    (h : ∀ w', w'.ownsRow base e size (.slice (some ⟨g, 0, none⟩) (n - 1) c) (n - 1) (xs.take (k * size) ++ xs.drop ((k + 1) * size)) → Chg (OnlyB g) w w' → w'.heap.size = w.heap.size → K (.int .i64 ((n - (k + 1) : Nat) : Int)) w') :
    runV P (Builtin.copy_ #[t, t] ty #[.slice d (n - k) dc, .slice s (n - (k + 1)) sc]) w K E := by
  subst hsz
  subst hd
  have hlen : xs.length = n * i.size := hown.1
  have hmin : Nat.min (n - (k + 1)) (n - k) = n - (k + 1) := Nat.min_eq_left (by omega)
  have hform : (xs.take (k * i.size) ++ xs.drop ((k + 1) * i.size)).length = (n - 1) * i.size := by
    have e1 : (k + 1) * i.size ≤ n * i.size := Nat.mul_le_mul_right _ (by omega)
    have e2 : k * i.size ≤ n * i.size := Nat.mul_le_mul_right _ (by omega)
    rw [List.length_append, List.length_take, List.length_drop, hlen, Nat.min_eq_left e2, Nat.succ_mul, Nat.sub_mul, Nat.one_mul]
    rw [Nat.succ_mul] at e1
    omega
  rcases hown.2 with ⟨he, _⟩ | ⟨g', cap, cur, he, hbg, hg, hnc, hcm, hcs, htake⟩
  · injection he with he _ _; cases he
  · injection he with he1 _ he3
    cases he1
    subst he3
    have hnews : (xs.drop ((k + 1) * i.size)).length = (n - (k + 1)) * i.size := by rw [List.length_drop, hlen, ← Nat.sub_mul]
    have hread : (Builtin.firstCells i.size (n - (k + 1)) (.slice s (n - (k + 1)) sc)).run P w = .ok (xs.drop ((k + 1) * i.size)).toArray w := by
      rcases hs with h0 | rfl
      · subst h0
        have h2 : k + 1 - (k + 1) = 0 := by omega
        have h3 : xs.drop ((k + 1) * i.size) = [] := List.drop_eq_nil_of_le (by omega)
        rw [h2, h3]
        cases s <;> simp [Builtin.firstCells, loadCells, loadCellsFrom]
      · refine run_firstCells_some w i.size _ _ _ _ _ hnews fun j u hu => ?_
        rw [List.getElem?_drop] at hu
        obtain ⟨A, hA, hc⟩ := own_cell hown hu
        cases hA
        rw [addK_lit] at hc
        simpa [Addr.add_lit] using hc
    have hfit : k * i.size + (xs.drop ((k + 1) * i.size)).length ≤ cur.size := by
      rw [hnews, hcs, ← Nat.add_mul]
      exact Nat.mul_le_mul_right _ (by omega)
    have hst := run_storeCells_cells (P := P) g (k * i.size) (xs.drop ((k + 1) * i.size)) 0 w (fun j hj => by rw [cell_blk hg]; simp; omega) (fun j _ => frozen_blk hg _ none) (fun u hu => h1 u (List.mem_of_mem_drop hu))
    have hrun : (Builtin.copy_ #[t, t] ty #[.slice (some ⟨g, k * i.size, none⟩) (n - k) dc, .slice s (n - (k + 1)) sc]).run P w = .ok (.int .i64 ((n - (k + 1) : Nat) : Int)) (w.setCells g (k * i.size) (xs.drop ((k + 1) * i.size))) := by
      have hl : (Builtin.lenOf (.slice s (n - (k + 1)) sc)).run P w = .ok (n - (k + 1)) w := rfl
      simp only [Nat.add_zero] at hst
      simp only [Builtin.copy_]
      simp [run_underlying ht, hl, sizeOf, typeInfo, hi, hmin, hread, hst, goInt]
    unfold runV
    rw [hrun]
    obtain ⟨cs', h2, h3, h4, h5⟩ := setCells_blk (xs.drop ((k + 1) * i.size)) (k * i.size) cur w hg hfit
    refine h _ ⟨hform, .inr ⟨g, c, cs', rfl, hbg, h2, by omega, hcm, ?_, ?_⟩⟩ h4 h5
    · have h6 := congrArg List.length h3
      simp only [Array.length_toList, List.length_append, List.length_take, List.length_drop] at h6
      rw [List.length_drop] at hfit
      rw [h6, ← hcs, Nat.min_eq_left (by omega)]
      omega
    · rw [h3, ← hform]
      have e3 : cur.toList.take (k * i.size) = xs.take (k * i.size) := by
        rw [← htake, List.take_take, Nat.min_eq_left (Nat.mul_le_mul_right _ (by omega))]
      rw [e3]
      exact List.take_left

theorem runV_mono {s : Sem Value} {w : World} {K K' : Value → World → Prop} {E : PanW} (h : runV P s w K E) (hk : ∀ v w, K v w → K' v w) : runV P s w K' E := by
  unfold runV at *
  split at h
  · exact hk _ _ h
  · exact h
  · exact h
/-- A store into a row of the call's own. -/
theorem setW_own {e : TypeId} {base size n g c j : Nat} {xs : List Value} {v : Value} {w : World} {K : World → Prop} (hown : w.ownsRow base e size (.slice (some ⟨g, 0, none⟩) n c) n xs) (hj : j < n * size) (hv : oneC v = true)
    (hK : ∀ w', w'.ownsRow base e size (.slice (some ⟨g, 0, none⟩) n c) n (xs.set j v) → Chg (OnlyB g) w w' → w'.heap.size = w.heap.size → K w') : setW w ⟨g, j, none⟩ v K := by
  rcases hown.2 with ⟨he, _⟩ | ⟨g', cap, cur, he, hbg, hg, hnc, hcm, hcs, htake⟩
  · injection he with he _ _; cases he
  · injection he with he1 _ he3
    cases he1
    subst he3
    have hlt : j < cur.size := by
      have : n * size ≤ c * size := Nat.mul_le_mul_right _ hnc
      omega
    refine setW_blk hg hlt hv ?_
    intro w' h1 h2 h3
    refine hK w' ⟨by rw [List.length_set]; exact hown.1, .inr ⟨g, c, _, rfl, hbg, h1, hnc, hcm, by simpa using hcs, ?_⟩⟩ h2 h3
    rw [Array.toList_setIfInBounds, List.take_set, htake]
end Go.Proofs.YtpolbdakhfcilaaGreatDoorEng
