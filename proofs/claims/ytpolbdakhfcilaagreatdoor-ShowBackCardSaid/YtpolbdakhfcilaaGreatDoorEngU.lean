/-
  Rows of the call's own that may have been cut at the front (x = x[k:]): append, cut, read. And rows of rows of bytes that nobody writes.
-/
import Derived.Test.YtpolbdakhfcilaaGreatDoorEngR
namespace Go.Proofs.YtpolbdakhfcilaaGreatDoorEng
open Go
set_option linter.unusedSimpArgs false
set_option linter.unusedVariables false
variable {P : Program}

theorem wSome_of {a : Option Addr} {A : Addr} {K : Addr → Prop} (h : a = some A) (k : K A) : wSome a K := by subst h; exact k
/-- the block of a slice that has room -/
def tBlk (v : Value) (k : Nat) : Prop := match v with
  | .slice (some A) _ c => 0 < c ∧ A.block = k
  | _ => False
def OwnT (w : World) (e : TypeId) (v : Value) (n : Nat) (xs : List Value) : Prop := ∃ a c, v = .slice a n c ∧ xs.length = n ∧ n ≤ c ∧
  (0 < c → ∃ g k cur, a = some ⟨g, k, none⟩ ∧ w.heap[g]? = some (.cells cur e (0, 0)) ∧ cur.size = k + c ∧ k + c ≤ maxLen ∧ (cur.toList.drop k).take n = xs)
theorem OwnT.nil (w : World) (e : TypeId) : OwnT w e (.slice none 0 0) 0 [] := ⟨none, 0, rfl, rfl, Nat.le_refl _, fun h => absurd h (by omega)⟩
theorem OwnT.lt {w : World} {e : TypeId} {v : Value} {n : Nat} {xs : List Value} (h : OwnT w e v n xs) {k : Nat} (hk : tBlk v k) : k < w.heap.size := by
  obtain ⟨a, c, rfl, hl, hn, h⟩ := h
  cases a with
  | none => exact hk.elim
  | some A =>
    obtain ⟨hc, rfl⟩ := hk
    obtain ⟨g, o, cur, e, hb, _⟩ := h hc
    cases e
    exact lt_of_blk hb
theorem OwnT.typed {w : World} {e : TypeId} {v : Value} {n : Nat} {xs : List Value} (h : OwnT w e v n xs) {k : Nat} (hk : tBlk v k) : ∃ cs, w.heap[k]? = some (.cells cs e (0, 0)) := by
  obtain ⟨a, c, rfl, hl, hn, h⟩ := h
  cases a with
  | none => exact hk.elim
  | some A =>
    obtain ⟨hc, rfl⟩ := hk
    obtain ⟨g, o, cur, e, hb, _⟩ := h hc
    cases e
    exact ⟨_, hb⟩
theorem OwnT.ne {w : World} {e t : TypeId} {v : Value} {n : Nat} {xs : List Value} (h : OwnT w e v n xs) {k : Nat} {cs : Array Value} (hb : w.heap[k]? = some (.cells cs t (0, 0))) (ht : e ≠ t) : ¬ tBlk v k := fun hk => by
  obtain ⟨cs', hb'⟩ := h.typed hk
  rw [hb] at hb'
  injection hb' with h1
  injection h1 with _ h2 _
  exact ht h2.symm
theorem OwnT.chg {S : Nat → Prop} {w w' : World} {e : TypeId} {v : Value} {n : Nat} {xs : List Value} (h : OwnT w e v n xs) (hc : Chg S w w') (hs : ∀ k, tBlk v k → ¬ S k) : OwnT w' e v n xs := by
  obtain ⟨a, c, rfl, hl, hn, h⟩ := h
  refine ⟨a, c, rfl, hl, hn, fun h0 => ?_⟩
  obtain ⟨g, o, cur, rfl, hb, r⟩ := h h0
  exact ⟨g, o, cur, rfl, hc.blk hb (hs g ⟨h0, rfl⟩), r⟩
theorem OwnT.reads {w : World} {e : TypeId} {a : Option Addr} {n c : Nat} {xs : List Value} (h : OwnT w e (.slice a n c) n xs) : Reads w a xs := by
  obtain ⟨a', c', e1, hl, hn, h⟩ := h
  injection e1 with e1 _ e2
  subst e1 e2
  intro j u hu
  have hlt := (List.getElem?_eq_some_iff.1 hu).1
  have hc0 : 0 < c := by omega
  obtain ⟨g, o, cur, rfl, hb, hsz, hm, ht⟩ := h hc0
  refine ⟨_, rfl, ?_⟩
  rw [addK_lit, cell_blk hb]
  rw [← ht, List.getElem?_take] at hu
  split at hu
  · rw [List.getElem?_drop] at hu
    rw [← Array.getElem?_toList]; exact hu
  · cases hu
theorem OwnT.form {w : World} {e : TypeId} {v : Value} {n : Nat} {xs : List Value} (h : OwnT w e v n xs) : ∃ a c, v = .slice a n c ∧ xs.length = n ∧ n ≤ c := by
  obtain ⟨a, c, e, hl, hn, _⟩ := h
  exact ⟨a, c, e, hl, hn⟩
theorem OwnT.len {w : World} {e : TypeId} {v : Value} {n : Nat} {xs : List Value} (h : OwnT w e v n xs) : xs.length = n := by
  obtain ⟨a, c, e, hl, hn, _⟩ := h
  exact hl
theorem OwnT.cut {w : World} {e : TypeId} {a : Option Addr} {n c : Nat} {xs : List Value} (h : OwnT w e (.slice a n c) n xs) {j : Nat} (hj : j ≤ n) :
    OwnT w e (.slice (if c = j then a else a.map fun A => addK A (j * 1)) (n - j) (c - j)) (n - j) (xs.drop j) ∧ ∀ k, tBlk (.slice (if c = j then a else a.map fun A => addK A (j * 1)) (n - j) (c - j)) k → tBlk (.slice a n c) k := by
  obtain ⟨a', c', e1, hl, hn, h⟩ := h
  injection e1 with e1 _ e2
  subst e1 e2
  have key : 0 < c - j → ∃ g k cur, (if c = j then a else a.map fun A => addK A (j * 1)) = some ⟨g, k, none⟩ ∧ w.heap[g]? = some (.cells cur e (0, 0)) ∧ cur.size = k + (c - j) ∧ k + (c - j) ≤ maxLen ∧ (cur.toList.drop k).take (n - j) = xs.drop j := by
    intro h0
    obtain ⟨g, o, cur, ha, hb, hsz, hm, ht⟩ := h (Nat.lt_of_lt_of_le h0 (Nat.sub_le _ _))
    have hjc : j < c := Nat.lt_of_sub_pos h0
    refine ⟨g, o + j, cur, ?_, hb, ?_, ?_, ?_⟩
    · rw [if_neg (Nat.ne_of_gt hjc), ha]; simp [addK_lit]
    · rw [hsz]; clear ht hb ha; omega
    · clear ht hb ha; omega
    · rw [← ht, List.drop_take, List.drop_drop]
  refine ⟨⟨_, _, rfl, by simp [hl], by omega, key⟩, fun k hk => ?_⟩
  · unfold tBlk at hk ⊢
    by_cases hcj : c = j
    · rw [if_pos hcj] at hk
      cases a with
      | none => exact hk.elim
      | some A => exact ⟨by have := hk.1; omega, hk.2⟩
    · rw [if_neg hcj] at hk
      cases a with
      | none => exact hk.elim
      | some A =>
        obtain ⟨h1, h2⟩ := hk
        refine ⟨by omega, ?_⟩
        rw [← h2]
        unfold addK Addr.add
        split <;> rfl
theorem OwnT.of_own {w : World} {e : TypeId} {base n : Nat} {v : Value} {xs : List Value} (h : w.ownsRow base e 1 v n xs) : OwnT w e v n xs := by
  rcases h.2 with ⟨rfl, rfl⟩ | ⟨g, cap, cur, rfl, hbg, hg, hnc, hcm, hcs, htake⟩
  · exact ⟨none, 0, rfl, by simpa using h.1, Nat.le_refl _, fun h => absurd h (by omega)⟩
  · exact ⟨_, _, rfl, by simpa using h.1, hnc, fun _ => ⟨g, 0, cur, rfl, hg, by omega, by omega, by simpa using htake⟩⟩

/-- append, to a row that may have been cut -/
theorem tail_append {t tx ty e e' : TypeId} {z : Value} {bytes n m c : Nat} {v : Value} {a : Option Addr} {xs news : List Value} {w : World} {K : Value → World → Prop} {E : PanW}
    (ht : P.underlying t = some (.slice e)) (htx : P.underlying tx = some (.slice e')) (hi : (P.info? e).map (fun i => (i.zero, i.size, i.bytes)) = some (some z, 1, bytes)) (hzs : z.cells.size = 1)
    (ho : OwnT w e v n xs) (hl : news.length = m) (hr : Reads w a news) (hm : 0 < m) (h0 : a ≠ none) (h1 : ∀ u ∈ news, u.oneCell' = true) (hb : (n + m) * bytes ≤ 140737488355328) (hb2 : n + m ≤ 140737488355328)
    (h : ∀ a' c' w', OwnT w' e (.slice a' (n + m) c') (n + m) (xs ++ news) → Chg (tBlk v) w w' → (∀ k, tBlk (.slice a' (n + m) c') k → tBlk v k ∨ w.heap.size ≤ k) → K (.slice a' (n + m) c') w') :
    runV P (Builtin.append_ #[t, tx] ty #[v, .slice a m c]) w K E := by
  obtain ⟨i, hi, hz, hsz, hby⟩ := info_open' hi
  have hs : Src P i.size tx (.slice a m c) m news w := src_slice htx (by rw [hsz]; omega) hr (fun e => absurd e h0) h1
  have hlen : (xs ++ news).length = (n + m) := by rw [List.length_append, ho.len, hl]
  obtain ⟨av, cv, rfl, hxl, hnc, hrest⟩ := ho
  have hgrow : cv < n + m → (Builtin.firstCells i.size n (.slice av n cv)).run P w.drew = .ok xs.toArray w.drew → runV P (Builtin.append_ #[t, tx] ty #[.slice av n cv, .slice a m c]) w K E := by
    intro hlt hold
    have hr := run_append_grow_src (P := P) w t tx ty e i z ht hi hz av n cv xs hold (.slice a m c) m news hs hlt (by omega) (nextcap_le _ _ _ (by rw [hby]; exact hb) hlt)
    unfold runV
    rw [hr]
    have hge := grownCap_ge w (n + m) cv e
    have hcm : grownCap w (n + m) cv e ≤ maxLen := grownCap_le_maxLen w (n + m) cv e (by simp only [maxLen]; omega)
    refine h _ _ _ ⟨_, _, rfl, hlen, hge, fun _ => ⟨w.heap.size, 0, _, rfl, blk_alloc w.drew _, ?_, by omega, ?_⟩⟩ ((chg_drew w _).trans (chg_alloc _ _ _)) (fun k hk => .inr (by have := hk.2; simp at this; omega))
    · simp only [Array.size_append, List.size_toArray, List.length_append, size_zeroCells, hzs, hxl, hl]
      omega
    · simp only [Array.toList_append, List.drop_zero]
      rw [← hlen]
      exact List.take_left
  by_cases hroom : n + m ≤ cv
  · have hc0 : 0 < cv := by omega
    obtain ⟨g, o, cur, rfl, hg, hcs, hcm, htake⟩ := hrest hc0
    have hr := run_append_room_src (P := P) w t tx ty e i ht hi g o n cv (.slice a m c) m news hs hroom
      (fun j hj => by rw [cell_blk hg]; simp [hsz]; omega) (fun j hj => frozen_blk hg _ none)
    unfold runV
    rw [hr]
    rw [hsz, Nat.mul_one]
    obtain ⟨cs', h1, h2, h3, h4⟩ := setCells_blk news (o + n) cur w hg (by omega)
    have hsz2 : cs'.size = cur.size := by
      have := congrArg List.length h2
      simp only [Array.length_toList, List.length_append, List.length_take, List.length_drop] at this
      omega
    refine h _ _ _ ⟨_, _, rfl, hlen, hroom, fun _ => ⟨g, o, cs', rfl, h1, by omega, hcm, ?_⟩⟩ (h3.mono fun k _ hk => by rw [show k = g from hk]; exact ⟨by omega, rfl⟩) (fun k hk => .inl ⟨by omega, hk.2⟩)
    rw [h2]
    rw [List.drop_append, List.drop_append]
    rw [show o - (List.take (o + n) cur.toList ++ news).length = 0 from by simp; omega, show o - (List.take (o + n) cur.toList).length = 0 from by simp; omega]
    rw [List.drop_take, show o + n - o = n from by omega, List.drop_zero, htake, ← hlen]
    exact List.take_left
  · refine hgrow (by omega) ?_
    by_cases hc0 : 0 < cv
    · obtain ⟨g, o, cur, rfl, hg, hcs, hcm, htake⟩ := hrest hc0
      refine run_firstCells_some w.drew i.size n ⟨g, o, none⟩ n cv xs (by rw [hxl, hsz]; omega) fun j u hu => ?_
      have := OwnT.reads (⟨_, _, rfl, hxl, hnc, hrest⟩ : OwnT w e (.slice (some ⟨g, o, none⟩) n cv) n xs) j u hu
      obtain ⟨A, hA, hc⟩ := this
      cases hA
      exact hc
    · have : n = 0 := by omega
      subst this
      have hx : xs = [] := List.eq_nil_of_length_eq_zero hxl
      subst hx
      cases av with
      | none => simp [Builtin.firstCells]
      | some A => exact run_firstCells_some w.drew i.size 0 A 0 cv [] (by simp) fun j u hu => by simp at hu

/-- append, to a slice without room: a new row -/
theorem full_append {t tx ty e e' : TypeId} {z : Value} {bytes n m c base : Nat} {A : Addr} {a : Option Addr} {xs news : List Value} {w : World} {K : Value → World → Prop} {E : PanW}
    (ht : P.underlying t = some (.slice e)) (htx : P.underlying tx = some (.slice e')) (hi : (P.info? e).map (fun i => (i.zero, i.size, i.bytes)) = some (some z, 1, bytes)) (hzs : z.cells.size = 1)
    (hx : Reads w (some A) xs) (hxl : xs.length = n) (hl : news.length = m) (hr : Reads w a news) (hm : 0 < m) (h0 : a ≠ none) (h1 : ∀ u ∈ news, u.oneCell' = true) (hb : (n + m) * bytes ≤ 140737488355328) (hb2 : n + m ≤ 140737488355328) (hbase : base ≤ w.heap.size)
    (h : ∀ a' c' w', w'.ownsRow base e 1 (.slice a' (n + m) c') (n + m) (xs ++ news) → Chg NoS w w' → (∀ k, (Value.slice a' (n + m) c').ownBlock = some k → w.heap.size ≤ k) → K (.slice a' (n + m) c') w') :
    runV P (Builtin.append_ #[t, tx] ty #[.slice (some A) n n, .slice a m c]) w K E := by
  obtain ⟨i, hi, hz, hsz, hby⟩ := info_open' hi
  have hs : Src P i.size tx (.slice a m c) m news w := src_slice htx (by rw [hsz]; omega) hr (fun e => absurd e h0) h1
  have hlen : (xs ++ news).length = (n + m) * 1 := by rw [List.length_append, hxl, hl]; omega
  have hold : (Builtin.firstCells i.size n (.slice (some A) n n)).run P w.drew = .ok xs.toArray w.drew := by
    refine run_firstCells_some w.drew i.size n A n n xs (by rw [hxl, hsz]; omega) fun j u hu => ?_
    obtain ⟨A', hA, hc⟩ := hx j u hu
    cases hA
    exact hc
  have hr := run_append_grow_src (P := P) w t tx ty e i z ht hi hz (some A) n n xs hold (.slice a m c) m news hs (by omega) (by omega) (nextcap_le _ _ _ (by rw [hby]; exact hb) (by omega))
  unfold runV
  rw [hr]
  have hge := grownCap_ge w (n + m) n e
  have hcm : grownCap w (n + m) n e ≤ maxLen := grownCap_le_maxLen w (n + m) n e (by simp only [maxLen]; omega)
  refine h _ _ _ ⟨hlen, .inr ⟨w.heap.size, _, _, rfl, hbase, blk_alloc w.drew _, hge, hcm, ?_, ?_⟩⟩ ((chg_drew w _).trans (chg_alloc _ _ _)) (fun k hk => Nat.le_of_eq (Option.some.inj hk))
  · simp only [Array.size_append, List.size_toArray, List.length_append, size_zeroCells, hzs, hxl, hl]
    omega
  · simp only [Array.toList_append]
    rw [← hlen]
    exact List.take_left

/-! ### rows of bytes that nobody writes: X is what may be written -/
def RowIn (w : World) (X : Nat → Prop) (v : Value) (bs : List UInt8) : Prop := ∃ a c, v = .slice a bs.length c ∧ bs.length ≤ c ∧ (a = none → bs.length = 0) ∧ Reads w a (vals bs) ∧ ∀ A, a = some A → 0 < bs.length → ¬ X A.block
theorem blk_addK (A : Addr) (k : Nat) : (addK A k).block = A.block := by unfold addK Addr.add; split <;> rfl
theorem Reads.lt {w : World} {A : Addr} {cs : List Value} (h : Reads w (some A) cs) (h0 : 0 < cs.length) : A.block < w.heap.size := by
  obtain ⟨A', e, hc⟩ := h 0 _ (List.getElem?_eq_getElem h0)
  cases e
  rcases Nat.lt_or_ge A.block w.heap.size with h' | h'
  · exact h'
  · unfold World.cell? at hc
    rw [blk_addK] at hc
    simp [Array.getElem?_eq_none h'] at hc
theorem RowIn.chg {S X : Nat → Prop} {w w' : World} {v : Value} {bs : List UInt8} (h : RowIn w X v bs) (hc : Chg S w w') (hs : ∀ k, k < w.heap.size → S k → X k) : RowIn w' X v bs := by
  obtain ⟨a, c, rfl, hl, h0, hr, hx⟩ := h
  refine ⟨a, c, rfl, hl, h0, ?_, hx⟩
  rcases Nat.eq_zero_or_pos bs.length with hz | hz
  · intro j u hu
    have := (List.getElem?_eq_some_iff.1 hu).1
    rw [vals_length] at this
    omega
  · exact hr.chg hc fun A e hS => by
      subst e
      exact hx A rfl hz (hs _ (Reads.lt hr (by rw [vals_length]; exact hz)) hS)
theorem RowIn.wide {X Y : Nat → Prop} {w : World} {v : Value} {bs : List UInt8} (h : RowIn w X v bs) (hs : ∀ k, k < w.heap.size → Y k → X k) : RowIn w Y v bs := by
  obtain ⟨a, c, rfl, hl, h0, hr, hx⟩ := h
  exact ⟨a, c, rfl, hl, h0, hr, fun A e hz hY => hx A e hz (hs _ (by subst e; exact Reads.lt hr (by rw [vals_length]; exact hz)) hY)⟩
theorem RowIn.one {X : Nat → Prop} {w : World} {v : Value} {bs : List UInt8} (h : RowIn w X v bs) : v.oneCell' = true := by
  obtain ⟨a, c, rfl, _⟩ := h
  rfl
def BRows (w : World) (X : Nat → Prop) : List Value → List (List UInt8) → Prop
  | [], [] => True
  | v :: vs, l :: ls => RowIn w X v l ∧ BRows w X vs ls
  | _, _ => False
theorem BRows.chg {S X : Nat → Prop} {w w' : World} (hc : Chg S w w') (hs : ∀ k, k < w.heap.size → S k → X k) : ∀ {vs : List Value} {ls : List (List UInt8)}, BRows w X vs ls → BRows w' X vs ls
  | [], [], h => trivial
  | v :: vs, l :: ls, h => ⟨h.1.chg hc hs, BRows.chg hc hs h.2⟩
  | [], _ :: _, h => h.elim
  | _ :: _, [], h => h.elim
theorem BRows.wide {X Y : Nat → Prop} {w : World} (hs : ∀ k, k < w.heap.size → Y k → X k) : ∀ {vs : List Value} {ls : List (List UInt8)}, BRows w X vs ls → BRows w Y vs ls
  | [], [], h => trivial
  | v :: vs, l :: ls, h => ⟨h.1.wide hs, BRows.wide hs h.2⟩
  | [], _ :: _, h => h.elim
  | _ :: _, [], h => h.elim
theorem BRows.length {X : Nat → Prop} {w : World} : ∀ {vs : List Value} {ls : List (List UInt8)}, BRows w X vs ls → vs.length = ls.length
  | [], [], h => rfl
  | v :: vs, l :: ls, h => by simp [BRows.length h.2]
  | [], _ :: _, h => h.elim
  | _ :: _, [], h => h.elim
theorem BRows.append {X : Nat → Prop} {w : World} : ∀ {vs : List Value} {ls : List (List UInt8)} {us : List Value} {ms : List (List UInt8)}, BRows w X vs ls → BRows w X us ms → BRows w X (vs ++ us) (ls ++ ms)
  | [], [], us, ms, h, k => k
  | v :: vs, l :: ls, us, ms, h, k => ⟨h.1, BRows.append h.2 k⟩
  | [], _ :: _, _, _, h, _ => h.elim
  | _ :: _, [], _, _, h, _ => h.elim
theorem BRows.drop {X : Nat → Prop} {w : World} : ∀ {vs : List Value} {ls : List (List UInt8)} (j : Nat), BRows w X vs ls → BRows w X (vs.drop j) (ls.drop j)
  | [], [], j, h => by simp [BRows]
  | v :: vs, l :: ls, 0, h => h
  | v :: vs, l :: ls, j + 1, h => BRows.drop j h.2
  | [], _ :: _, _, h => h.elim
  | _ :: _, [], _, h => h.elim
theorem BRows.get {X : Nat → Prop} {w : World} : ∀ {vs : List Value} {ls : List (List UInt8)}, BRows w X vs ls → ∀ {j : Nat} {l : List UInt8}, ls[j]? = some l → ∃ v, vs[j]? = some v ∧ RowIn w X v l
  | [], [], h, j, l, hl => by simp at hl
  | v :: vs, m :: ls, h, 0, l, hl => ⟨v, rfl, by simp at hl; subst hl; exact h.1⟩
  | v :: vs, m :: ls, h, j + 1, l, hl => BRows.get h.2 (j := j) (by simpa using hl)
  | [], _ :: _, h, _, _, _ => h.elim
  | _ :: _, [], h, _, _, _ => h.elim
theorem BRows.ones {X : Nat → Prop} {w : World} : ∀ {vs : List Value} {ls : List (List UInt8)}, BRows w X vs ls → ∀ u ∈ vs, u.oneCell' = true
  | [], [], h, u, hu => by simp at hu
  | v :: vs, l :: ls, h, u, hu => by
    rcases List.mem_cons.1 hu with rfl | hu
    · exact h.1.one
    · exact BRows.ones h.2 u hu
  | [], _ :: _, h, _, _ => h.elim
  | _ :: _, [], h, _, _ => h.elim
end Go.Proofs.YtpolbdakhfcilaaGreatDoorEng
