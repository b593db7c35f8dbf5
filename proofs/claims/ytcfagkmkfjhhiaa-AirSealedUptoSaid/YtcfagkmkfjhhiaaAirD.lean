/-
  What Do does to an air: its contract.
-/
import Derived.Test.YtcfagkmkfjhhiaaAirC
import Derived.IntWalk
import Derived.Laws.BitsLemmas
set_option linter.unusedVariables false
set_option linter.unusedSimpArgs false
namespace Go.Proofs.Ytcfagkmkfjhhiaa.B
open Go Go.Proofs Go.Proofs.YtcfagkmkfjhhiaaEng

theorem Do_nil (what at_ : Int) (w : World) : Calls Try.prog 16 #[.pointer none, .int .u8 what, .int .i64 at_] w (endW (fun v w' => v = .int .i64 1 ∧ w' = w) (fun _ _ => False)) := by
  refine F16_calls none what at_ ?_
  unfold F16
  refine ⟨fun _ _ => False, fun _ _ h => h.elim, ?_⟩
  rw [if_pos (by simp)]
  exact ⟨rfl, rfl⟩
theorem Do_arg {w : World} {base p : Nat} {fp : Nat → Prop} {ds cs : List Dg} (what at_ : Int) (h : 5 ≤ what ∨ at_ < 0) :
    Calls Try.prog 16 #[.pointer (some ⟨p, 0, none⟩), .int .u8 what, .int .i64 at_] w (endW (fun v w' => v = .int .i64 2 ∧ w' = w) (fun _ _ => False)) := by
  refine F16_calls _ what at_ ?_
  unfold F16
  refine ⟨fun _ _ => False, fun _ _ h => h.elim, ?_⟩
  rw [if_neg (by simp)]
  by_cases h5 : 5 ≤ what
  · rw [if_neg (by simp; omega)]
    exact ⟨rfl, rfl⟩
  · rw [if_pos (by simp; omega), if_pos (by simp; omega)]
    exact ⟨rfl, rfl⟩
theorem Do_none {w : World} {base p : Nat} {fp : Nat → Prop} {cs : List Dg} (hA : AirSt w base p fp [] cs) (what at_ : Int) (h : what < 5) (ha : 0 ≤ at_) :
    Calls Try.prog 16 #[.pointer (some ⟨p, 0, none⟩), .int .u8 what, .int .i64 at_] w (endW (fun v w' => v = .int .i64 5 ∧ w' = w) (fun _ _ => False)) := by
  obtain ⟨vl, vc, hA⟩ := hA
  refine F16_calls _ what at_ ?_
  unfold F16
  refine ⟨fun _ _ => False, fun _ _ h => h.elim, ?_⟩
  rw [if_neg (by simp), if_pos (by simp; omega), if_neg (by simp; omega)]
  obtain ⟨a1, c1, hvl, _, _⟩ := own_form hA.l
  refine ⟨a1, 0, c1, ?_, ?_⟩
  · rw [addK_lit, cell_blk hA.obj, hvl]; rfl
  rw [if_pos (by simp)]
  exact ⟨rfl, rfl⟩

theorem rowOf_length (ds : List Dg) : (rowOf ds).length = ds.length * 2 := by
  induction ds with
  | nil => rfl
  | cons d ds ih => simp only [rowOf, List.flatMap_cons, List.length_append] at *; simp [ih]; omega
theorem rowOf_get {ds : List Dg} {k : Nat} {d : Dg} (h : ds[k]? = some d) : (rowOf ds)[k * 2]? = some d.v ∧ (rowOf ds)[k * 2 + 1]? = some (.bool d.ch) := by
  induction ds generalizing k with
  | nil => simp at h
  | cons x ds ih =>
    cases k with
    | zero => simp at h; subst h; simp [rowOf]
    | succ k =>
      simp at h
      have := ih h
      simp only [rowOf, List.flatMap_cons, List.cons_append, List.nil_append]
      rw [show (k + 1) * 2 = k * 2 + 2 from by omega]
      simpa [rowOf] using this
theorem rowOf_erase (ds : List Dg) (k : Nat) : (rowOf ds).take (k * 2) ++ (rowOf ds).drop ((k + 1) * 2) = rowOf (ds.eraseIdx k) := by
  induction ds generalizing k with
  | nil => simp [rowOf]
  | cons x ds ih =>
    cases k with
    | zero => simp [rowOf]
    | succ k =>
      have := ih k
      rw [show (k + 1) * 2 = k * 2 + 2 from by omega, show (k + 1 + 1) * 2 = (k + 1) * 2 + 2 from by omega]
      simp only [rowOf, List.flatMap_cons, List.cons_append, List.nil_append, List.take_succ_cons, List.drop_succ_cons, List.eraseIdx_cons_succ]
      simp only [rowOf] at this
      rw [this]
theorem rowOf_one {w : World} {base : Nat} {ds : List Dg} (h : ∀ d ∈ ds, w.ownsRow base 5 1 d.v d.n d.bs) : ∀ u ∈ rowOf ds, u.oneCell' = true := by
  intro u hu
  obtain ⟨d, hd, hu⟩ := List.mem_flatMap.1 hu
  obtain ⟨a, c, hv, _⟩ := own_form (h d hd)
  simp only [List.mem_cons, List.not_mem_nil, or_false] at hu
  rcases hu with rfl | rfl
  · rw [hv]; rfl
  · rfl

/-- the place that is meant -/
def plc (at_ : Int) (n : Nat) : Nat := (at_.tmod n).toNat
theorem plc_lt {at_ : Int} {n : Nat} (h : 0 ≤ at_) (hn : 0 < n) : at_.tmod n = (plc at_ n : Int) ∧ plc at_ n < n := by
  have h1 : 0 ≤ at_.tmod n := Int.tmod_nonneg _ h
  have h2 : at_.tmod n < n := Int.tmod_lt_of_pos _ (by omega)
  unfold plc
  omega

/-- the five deeds -/
inductive Deed (at_ : Int) : Int → List Dg → List Dg → List Dg → List Dg → Prop
  | bring (ds cs : List Dg) (x : Dg) (h : ds[plc at_ ds.length]? = some x) : Deed at_ 0 ds cs (ds.eraseIdx (plc at_ ds.length)) (cs ++ [x])
  | lose (ds cs : List Dg) (x : Dg) (h : ds[plc at_ ds.length]? = some x) : Deed at_ 1 ds cs (ds.eraseIdx (plc at_ ds.length)) cs
  | double (ds cs : List Dg) (x y : Dg) (h : ds[plc at_ ds.length]? = some x) (hy : y.bs = x.bs ∧ y.n = x.n ∧ y.ch = x.ch) : Deed at_ 2 ds cs (ds ++ [y]) cs
  | same (ds cs : List Dg) (x : Dg) (h : ds[plc at_ ds.length]? = some x) (hc : x.ch = true ∨ x.n = 0) : Deed at_ 3 ds cs ds cs
  | change (ds cs : List Dg) (x y : Dg) (b : UInt8) (h : ds[plc at_ ds.length]? = some x) (hc : x.ch = false ∧ x.n ≠ 0) (hb : x.bs[plc (at_.tdiv ds.length) x.n]? = some (.int .u8 b.toNat))
      (hy : y.n = x.n ∧ y.ch = true ∧ y.bs = x.bs.set (plc (at_.tdiv ds.length) x.n) (.int .u8 (b ^^^ 0x5a).toNat)) : Deed at_ 3 ds cs (ds.set (plc at_ ds.length) y) cs
  | delay (ds cs : List Dg) (x : Dg) (h : ds[plc at_ ds.length]? = some x) : Deed at_ 4 ds cs (ds.eraseIdx (plc at_ ds.length) ++ [x]) cs

theorem xor_u8 (b : UInt8) : IntKind.u8.wrap ((BitVec.ofInt 8 (b.toNat : Int) ^^^ BitVec.ofInt 8 90).toNat : Int) = ((b ^^^ 0x5a).toNat : Int) := by
  have e : BitVec.ofInt 8 (b.toNat : Int) = b.toBitVec := by
    rw [BitVec.ofInt_natCast]
    show BitVec.ofNat 8 b.toBitVec.toNat = _
    simp
  rw [e, IntKind.wrap_u8]
  have e2 : (b ^^^ 0x5a).toNat = (b.toBitVec ^^^ BitVec.ofInt 8 90).toNat := rfl
  rw [e2]
  have := (b.toBitVec ^^^ BitVec.ofInt 8 90).isLt
  omega

theorem perm_erase {α : Type} : ∀ {l : List α} {k : Nat} {x : α}, l[k]? = some x → l.Perm (x :: l.eraseIdx k)
  | [], k, x, h => by simp at h
  | a :: l, 0, x, h => by simp at h; subst h; simp
  | a :: l, k + 1, x, h => by
    simp at h
    exact ((perm_erase h).cons a).trans (List.Perm.swap x a _)
/-- the list without its k-th, behind copy and cut -/
theorem erased {w : World} {base p : Nat} {fp : Nat → Prop} {ds cs : List Dg} {vl vc : Value} {k : Nat} {x : Dg} {R : World → Prop} {E : PanW} (hA : AirAt w base p fp ds cs vl vc) (hk : ds[k]? = some x) (hl : ds.length ≤ 1099511627776)
    (h : ∀ w' vl', AirAt w' base p fp (ds.eraseIdx k) cs vl' vc → (∀ j, x.v.ownBlock = some j → fp j ∧ j ∉ blks (ds.eraseIdx k ++ cs)) → w'.ownsRow base 5 1 x.v x.n x.bs → Chg fp w w' → w'.heap.size = w.heap.size → (∀ (b : Nat) (o : Obj), w.heap[b]? = some o → ¬ fp b → w'.heap[b]? = some o) → R w') :
    ∃ a n c, vl = .slice a n c ∧ ∀ d s : Option Addr, ∀ dc sc, d = (if c = k then a else a.map fun A => addK A (k * 2)) → s = (if c = k + 1 then a else a.map fun A => addK A ((k + 1) * 2)) →
    runV Try.prog (Builtin.copy_ #[45, 45] 3 #[.slice d (ds.length - k) dc, .slice s (ds.length - (k + 1)) sc]) w
      (fun v w => ∃ y : Int, v = .int .i64 y ∧ ∃ a n c, w.cell? ⟨p, 0, none⟩ = some (.slice a n c) ∧ ds.length - 1 ≤ c ∧ setW w ⟨p, 0, none⟩ (.slice (if c = 0 then a else a.map fun A => addK A 0) (ds.length - 1) c) R) E := by
  have hklt : k < ds.length := (List.getElem?_eq_some_iff.1 hk).1
  obtain ⟨i, hi, hz, hs, hby⟩ := info_open info49
  have hown := hA.l
  rcases hown.2 with ⟨_, h0⟩ | ⟨g, c, cur, hvl, hbg, hg, hnc, hcm, hcs, htake⟩
  · omega
  refine ⟨some ⟨g, 0, none⟩, ds.length, c, hvl, ?_⟩
  intro d s dc sc hd hs'
  have hpg : p ≠ g := fun e => by
    subst e
    have h1 := hA.obj
    rw [hg] at h1
    injection h1 with h1
    injection h1 with _ h1
    exact absurd h1 (by decide)
  refine copy_shift (base := base) (n := ds.length) (g := g) (c := c) (k := k) (xs := rowOf ds) Try.underlying45 hi hs (by rw [← hvl]; exact hown) hklt (rowOf_one fun x hx => (hA.row x (List.mem_append_left _ hx)).1) ?_ ?_ ?_
  · rw [hd, if_neg (by omega)]; simp [addK_lit]
  · by_cases e : c = k + 1
    · left; omega
    · right; rw [hs', if_neg e]; simp [addK_lit]
  intro w1 ho1 hc1 hs1
  have hobj1 : w1.heap[p]? = some (.cells #[vl, vc] 47 (0, 0)) := hc1.blk hA.obj (fun e => hpg e)
  refine ⟨_, rfl, some ⟨g, 0, none⟩, ds.length, c, ?_, by omega, ?_⟩
  · rw [cell_blk hobj1, hvl]; rfl
  have e2 : (if c = 0 then some ⟨g, 0, none⟩ else Option.map (fun A => addK A 0) (some (⟨g, 0, none⟩ : Addr))) = some ⟨g, 0, none⟩ := by
    split <;> simp [addK_zero]
  rw [e2]
  refine setW_blk hobj1 (by simp) rfl ?_
  intro w2 hb2 hc2 hs2
  have hkeep : ∀ {e : TypeId} {size n : Nat} {v : Value} {xs : List Value}, e ≠ 49 → e ≠ 47 → w.ownsRow base e size v n xs → w2.ownsRow base e size v n xs := by
    intro e size n v xs h49 h47 ho
    have h2 := own_of_chg ho hc1 (fun j hj hx => by
      have e' : j = g := hx
      subst e'
      exact own_ne' ho hg h49 hj)
    exact own_of_chg h2 hc2 (fun j hj hx => by
      have e' : j = p := hx
      subst e'
      exact own_ne' h2 hobj1 h47 hj)
  have hfg : fp g := hA.fpl g (by rw [hvl]; rfl)
  have hchg : Chg fp w w2 := (hc1.mono fun j _ hj => by rw [show j = g from hj]; exact hfg).trans (hc2.mono fun j _ hj => by rw [show j = p from hj]; exact hA.fpp)
  have hsub : ∀ y, y ∈ ds.eraseIdx k ++ cs → y ∈ ds ++ cs := fun y hy => by
    rcases List.mem_append.1 hy with hy | hy
    · exact List.mem_append_left _ (List.mem_of_mem_eraseIdx hy)
    · exact List.mem_append_right _ hy
  have hperm : (ds ++ cs).Perm (x :: (ds.eraseIdx k ++ cs)) := by
    exact (perm_erase hk).append_right cs
  have hnd : (blks (x :: (ds.eraseIdx k ++ cs))).Nodup := by
    exact ((List.Perm.filterMap (fun d : Dg => d.v.ownBlock) hperm).nodup_iff).1 hA.nodup
  have hxm : x ∈ ds ++ cs := List.mem_append_left _ (List.mem_of_getElem? hk)
  refine h w2 (.slice (some ⟨g, 0, none⟩) (ds.length - 1) c) ⟨by simpa using hb2, ?_, hkeep (by decide) (by decide) hA.came, fun y hy => ⟨hkeep (by decide) (by decide) (hA.row y (hsub y hy)).1, (hA.row y (hsub y hy)).2⟩, ?_, hA.fpp, fun j hj => by
      have : g = j := by simpa [Value.ownBlock] using hj
      subst this; exact hfg, hA.fpc, fun y hy => hA.fpd y (hsub y hy), fun j hj => by have := hA.fpb j hj; exact ⟨this.1, by omega⟩⟩ ?_ (hkeep (by decide) (by decide) (hA.row x hxm).1) hchg (by omega) (fun b o hb hn => hchg.blk hb hn)
  · have hlen : (ds.eraseIdx k).length = ds.length - 1 := List.length_eraseIdx_of_lt hklt
    rw [hlen, ← rowOf_erase]
    exact own_of_chg ho1 hc2 (fun j hj hx => by
      have e' : j = p := hx
      have : g = j := by simpa [Value.ownBlock] using hj
      omega)
  · unfold blks at hnd ⊢
    rw [List.filterMap_cons] at hnd
    split at hnd
    · exact hnd
    · exact (List.nodup_cons.1 hnd).2
  · intro j hj
    refine ⟨hA.fpd x hxm j hj, fun hm => ?_⟩
    unfold blks at hnd
    rw [List.filterMap_cons, hj] at hnd
    exact (List.nodup_cons.1 hnd).1 hm

theorem rowOf_set {ds : List Dg} {k : Nat} {x y : Dg} (h : ds[k]? = some x) (hv : y.v = x.v) : (rowOf ds).set (k * 2 + 1) (.bool y.ch) = rowOf (ds.set k y) := by
  induction ds generalizing k with
  | nil => simp at h
  | cons a ds ih =>
    cases k with
    | zero => simp at h; subst h; simp [rowOf, hv]
    | succ k =>
      simp at h
      have := ih h
      rw [show (k + 1) * 2 + 1 = (k * 2 + 1) + 2 from by omega]
      simp only [rowOf, List.flatMap_cons, List.cons_append, List.nil_append, List.set_cons_succ]
      simp only [rowOf] at this
      rw [this]
theorem mem_set_of {α : Type} : ∀ {l : List α} {k : Nat} {y z : α}, z ∈ l.set k y → z ∈ l ∨ z = y
  | [], _, _, _, h => by simp at h
  | a :: l, 0, y, z, h => by
    simp at h
    rcases h with h | h
    · exact .inr h
    · exact .inl (List.mem_cons_of_mem _ h)
  | a :: l, k + 1, y, z, h => by
    simp at h
    rcases h with h | h
    · exact .inl (h ▸ List.mem_cons_self)
    · rcases mem_set_of h with h | h
      · exact .inl (List.mem_cons_of_mem _ h)
      · exact .inr h
theorem blks_set {ds : List Dg} {k : Nat} {x y : Dg} (h : ds[k]? = some x) (hv : y.v = x.v) : blks (ds.set k y) = blks ds := by
  induction ds generalizing k with
  | nil => simp at h
  | cons a ds ih =>
    cases k with
    | zero => simp at h; subst h; simp [blks, List.filterMap_cons, hv]
    | succ k =>
      simp at h
      have := ih h
      simp only [blks] at this ⊢
      simp [List.filterMap_cons, this]

theorem fpb_grown {w w' : World} {base : Nat} {fp : Nat → Prop} (h : ∀ k, fp k → base ≤ k ∧ k < w.heap.size) (hb : base ≤ w.heap.size) (hs : w.heap.size ≤ w'.heap.size) : ∀ k, grown fp w w' k → base ≤ k ∧ k < w'.heap.size := fun k hk => by
  rcases hk with hk | hk
  · have := h k hk; exact ⟨this.1, by omega⟩
  · exact ⟨by omega, hk.2⟩
theorem AirSt.widen {w : World} {base p : Nat} {fp fp' : Nat → Prop} {ds cs : List Dg} (h : AirSt w base p fp ds cs) (hs : ∀ k, fp k → fp' k) (hb : ∀ k, fp' k → base ≤ k ∧ k < w.heap.size) : AirSt w base p fp' ds cs := by
  obtain ⟨vl, vc, h⟩ := h
  exact ⟨vl, vc, h.widen hs hb⟩

set_option maxHeartbeats 1000000 in
/-- the erased list, with the slice's words at hand -/
theorem erased2 {w : World} {base p : Nat} {fp : Nat → Prop} {ds cs : List Dg} {vl vc : Value} {k : Nat} {x : Dg} {R : World → Prop} {E : PanW} {a : Option Addr} {n c : Nat} (hv : vl = .slice a n c) {d s : Option Addr} {dc sc : Nat}
    (hd : d = (if c = k then a else a.map fun A => addK A (k * 2))) (hs : s = (if c = k + 1 then a else a.map fun A => addK A ((k + 1) * 2)))
    (hA : AirAt w base p fp ds cs vl vc) (hk : ds[k]? = some x) (hl : ds.length ≤ 1099511627776)
    (h : ∀ w' vl', AirAt w' base p fp (ds.eraseIdx k) cs vl' vc → (∀ j, x.v.ownBlock = some j → fp j ∧ j ∉ blks (ds.eraseIdx k ++ cs)) → w'.ownsRow base 5 1 x.v x.n x.bs → Chg fp w w' → w'.heap.size = w.heap.size → (∀ (b : Nat) (o : Obj), w.heap[b]? = some o → ¬ fp b → w'.heap[b]? = some o) → R w') :
    runV Try.prog (Builtin.copy_ #[45, 45] 3 #[.slice d (ds.length - k) dc, .slice s (ds.length - (k + 1)) sc]) w
      (fun v w => ∃ y : Int, v = .int .i64 y ∧ ∃ a n c, w.cell? ⟨p, 0, none⟩ = some (.slice a n c) ∧ ds.length - 1 ≤ c ∧ setW w ⟨p, 0, none⟩ (.slice (if c = 0 then a else a.map fun A => addK A 0) (ds.length - 1) c) R) E := by
  obtain ⟨a', n', c', e, hr⟩ := erased (R := R) (E := E) hA hk hl h
  rw [hv] at e
  injection e with e1 e2 e3
  subst e1
  subst e2
  subst e3
  exact hr _ _ _ _ hd hs
theorem Do_ok {w : World} {base p : Nat} {fp : Nat → Prop} {ds cs : List Dg} (hA : AirSt w base p fp ds cs) (what at_ : Int) (h0 : 0 ≤ what) (h5 : what < 5) (ha : 0 ≤ at_) (hne : 0 < ds.length) (hl : ds.length ≤ 1099511627776) (hl2 : cs.length ≤ 1099511627776) (ha2 : at_ ≤ 9223372036854775807) (hbl : ∀ d ∈ ds, d.n ≤ 1099511627776) :
    Calls Try.prog 16 #[.pointer (some ⟨p, 0, none⟩), .int .u8 what, .int .i64 at_] w (endW (fun v w' => v = .int .i64 0 ∧ ∃ ds' cs', Deed at_ what ds cs ds' cs' ∧ AirSt w' base p (grown fp w w') ds' cs' ∧ Chg fp w w') (fun _ _ => False)) := by
  obtain ⟨vl, vc, hA⟩ := hA
  obtain ⟨htm, hlt⟩ := plc_lt (n := ds.length) ha hne
  generalize hk : plc at_ ds.length = k at *
  obtain ⟨x, hx⟩ : ∃ x, ds[k]? = some x := ⟨_, List.getElem?_eq_getElem hlt⟩
  have hxm : x ∈ ds ++ cs := List.mem_append_left _ (List.mem_of_getElem? hx)
  have hxr := hA.row x hxm
  obtain ⟨ax, cx, hxv, hcx, hax⟩ := own_form hxr.1
  have hpb := hA.fpb p hA.fpp
  have hbase : base ≤ w.heap.size := by omega
  have hcell : ∀ {W : World}, AirAt W base p fp ds cs vl vc → ∃ g c1, vl = .slice (some ⟨g, 0, none⟩) ds.length c1 ∧ ds.length ≤ c1 ∧ W.cell? ⟨p, 0, none⟩ = some (.slice (some ⟨g, 0, none⟩) ds.length c1) ∧
      W.cell? ⟨g, k * 2, none⟩ = some x.v ∧ W.cell? ⟨g, k * 2 + 1, none⟩ = some (.bool x.ch) := by
    intro W hW
    have hown := hW.l
    rcases hown.2 with ⟨_, h0⟩ | ⟨g, c, cur, hvl, hbg, hg, hnc, _⟩
    · omega
    · refine ⟨g, c, hvl, hnc, by rw [cell_blk hW.obj, hvl]; rfl, ?_, ?_⟩
      · rw [hvl] at hown
        obtain ⟨A, e, h⟩ := own_cell hown (rowOf_get hx).1
        cases e
        simpa [addK_lit] using h
      · rw [hvl] at hown
        obtain ⟨A, e, h⟩ := own_cell hown (rowOf_get hx).2
        cases e
        simpa [addK_lit] using h
  refine F16_calls _ what at_ ?_
  unfold F16
  refine ⟨fun _ w' => w' = w, ?_, ?_⟩
  rotate_left
  · rw [if_neg (by simp), if_pos (by simp; omega), if_neg (by simp; omega)]
    obtain ⟨g, c1, hvl, hc1, hp0, _⟩ := hcell hA
    refine ⟨some ⟨g, 0, none⟩, ds.length, c1, by rw [addK_lit]; exact hp0, ?_⟩
    rw [if_neg (by simp; intro h; rw [h] at hne; simp at hne)]
    exact ⟨(), trivial, rfl⟩
  intro _ w' hw' _
  subst hw'
  obtain ⟨g, c1, hvl, hc1, hp0, hx0, hx1⟩ := hcell hA
  have e1 : Int.toNat (at_.tmod (ds.length : Int)) = k := by rw [htm]; simp
  refine ⟨some ⟨g, 0, none⟩, ds.length, c1, by rw [addK_lit]; exact hp0, by omega, ?_⟩
  rw [e1, htm]
  refine ⟨some ⟨g, 0, none⟩, ds.length, c1, by rw [addK_lit]; exact hp0, by omega, by omega, ax, x.n, cx, ?_, x.ch, ?_, ?_⟩
  · rw [addK_lit, addK_lit]; simp [hx0, ← hxv]
  · rw [addK_lit, addK_lit]; simp [hx1]
  have hb0 := blk_alloc w' (.cells #[Value.slice none 0 0, Value.bool false] 49)
  simp only [addK_lit, Nat.zero_add, Nat.add_zero]
  refine setW_blk hb0 (by simp) rfl ?_
  intro w1 hb1 hc1' hs1
  refine setW_blk hb1 (by simp) rfl ?_
  intro w2 hb2 hc2' hs2
  have hc02 : Chg NoS w' w2 := by
    have h1 := (chg_alloc w' (.cells #[Value.slice none 0 0, Value.bool false] 49) NoS)
    refine (h1.trans2 hc1' (fun i hi (he : i = _) => by omega)).trans2 hc2' (fun i hi (he : i = _) => by omega)
  have hb2' : w2.heap[w'.heap.size]? = some (.cells #[x.v, .bool x.ch] 49 (0, 0)) := by rw [hb2, hxv]; simp
  have hsz2 : w2.heap.size = w'.heap.size + 1 := by rw [hs2, hs1, size_alloc]
  have hA2 := hA.chg hc02 (fun _ _ x => x)
  have hG : ∀ {w4 : World}, w'.heap.size ≤ w4.heap.size → ∀ k, grown fp w' w4 k → base ≤ k ∧ k < w4.heap.size := fun hs => fpb_grown hA.fpb hbase hs
  have e0 : ∀ {W : World} {v : Value} {cs : Array Value} {t : TypeId} {b j : Nat}, W.heap[b]? = some (.cells cs t (0, 0)) → cs[j]? = some v → W.cell? ⟨b, j, none⟩ = some v := fun hb hj => by rw [cell_blk hb]; simpa using hj
  by_cases w2' : what = 2
  · subst w2'
    rw [if_pos (by simp)]
    refine ⟨ax, x.n, cx, ?_, ?_⟩
    · rw [← hxv]; exact e0 ((chg_alloc w2 (.cells #[] 5) NoS).blk hb2' (fun x => x)) rfl
    refine append_fresh (base := base) (bs := x.bs) (by have := hxr.1.1; omega) (by have := own_reads' (hxv ▸ (hA2.row x hxm).1); exact this) ?_ hxr.2.one (by have := hbl x (List.mem_of_getElem? hx); omega) (by omega) ?_
    · intro e
      rcases hxr.1.2 with ⟨h1, h2⟩ | ⟨g', c', cur', h1, _⟩
      · exact h2
      · rw [hxv, e] at h1; injection h1 with h1; cases h1
    intro v3 w3 ho3 hc3 hn3
    obtain ⟨a3, c3, hv3, _, _⟩ := own_form ho3
    refine ⟨a3, x.n, c3, hv3, ?_⟩
    subst hv3
    have hb3 := hc3.blk hb2' (fun x => x)
    refine setW_blk hb3 (by simp) rfl ?_
    intro w4 hb4 hc4 hs4
    have hb4' : w4.heap[w'.heap.size]? = some (.cells #[.slice a3 x.n c3, .bool x.ch] 49 (0, 0)) := by rw [hb4]; simp
    have hc04 : Chg NoS w' w4 := (hc02.trans hc3).trans2 hc4 (fun i hi (he : i = _) => by omega)
    have hA4 := (hA.chg (hc04.trans (chg_drew w4 NoS)) (fun _ _ x => x)).widen (fp' := grown fp w' w4) (fun k hk => .inl hk) (hG hc04.size)
    have ho4 : w4.drew.ownsRow base 5 1 (.slice a3 x.n c3) x.n x.bs := own_of_chg (own_of_chg ho3 hc4 (fun k hk (he : k = _) => by have := hn3 k hk; omega)) (chg_drew w4 NoS) (fun _ _ x => x)
    obtain ⟨g4, c4, hvl4, hc4', hp4, _⟩ := hcell (hA.chg (hc04.trans (chg_drew w4 NoS)) (fun _ _ x => x))
    refine ⟨_, _, _, by rw [addK_lit]; exact hp4, a3, x.n, c3, e0 (by rw [heap_drew]; exact hb4') rfl, x.ch, e0 (by rw [heap_drew]; exact hb4') rfl, (chg_alloc _ _ NoS).sameOld, ?_⟩
    rw [← hvl4]
    simp only [wSome, addK_lit, Nat.add_zero]
    have hnb : ∀ k, (Value.slice a3 x.n c3).ownBlock = some k → w'.heap.size ≤ k ∧ k < w4.heap.size := fun k hk => by
      have := hn3 k hk; have := (own_lt' ho4 hk).1; rw [size_drew] at this; omega
    refine push_l (d := ⟨.slice a3 x.n c3, x.n, x.bs, x.ch⟩) hA4 ho4 hxr.2 (fun k hk => ⟨.inr (hnb k hk), fun hm => ?_⟩) hl ?_
    · obtain ⟨d, hd, hdk⟩ := mem_blks.1 hm
      have := hA.fpb k (hA.fpd d hd k hdk)
      have := hnb k hk
      omega
    intro w5 hA5 hc5
    have hsz := hc04.size
    have hsz5 := hc5.size
    rw [size_drew] at hsz5
    refine ⟨trivial, _, _, .double ds cs x ⟨.slice a3 x.n c3, x.n, x.bs, x.ch⟩ (by rw [hk]; exact hx) ⟨rfl, rfl, rfl⟩, hA5.widen (fun k hk => ?_) (hG (by omega)), (hc04.mono (T := fp) (fun _ _ x => x.elim)).trans2 ((chg_drew w4 _).trans hc5) (fun k hk hx => ?_)⟩
    · rcases hk with (hk | hk) | hk
      · exact .inl hk
      · exact .inr ⟨hk.1, by omega⟩
      · exact .inr ⟨by have := hk.1; rw [size_drew] at this; omega, hk.2⟩
    · rcases hx with hx | hx
      · exact hx
      · omega
  rw [if_neg (by simp; exact w2')]
  have hw2 : AirSt w2 base p (grown fp w' w2) ds cs := ⟨vl, vc, hA2.widen (fun k hk => .inl hk) (hG (by omega))⟩
  have hcf2 : Chg fp w' w2 := hc02.mono (fun _ _ x => x.elim)
  by_cases w3' : what = 3
  · subst w3'
    rw [if_pos (by simp)]
    refine ⟨x.ch, e0 hb2' rfl, ?_⟩
    by_cases hch : x.ch = true
    · rw [if_neg (by simp [hch])]
      exact ⟨trivial, _, _, .same ds cs x (by rw [hk]; exact hx) (.inl hch), hw2, hcf2⟩
    rw [if_pos (by simpa using hch)]
    refine ⟨ax, x.n, cx, by rw [← hxv]; exact e0 hb2' rfl, ?_⟩
    by_cases hxn : x.n = 0
    · rw [if_neg (by simp [hxn])]
      exact ⟨trivial, _, _, .same ds cs x (by rw [hk]; exact hx) (.inr hxn), hw2, hcf2⟩
    rw [if_pos (by simp; omega)]
    have hbd : w2.drew.heap[w'.heap.size]? = some (.cells #[x.v, .bool x.ch] 49 (0, 0)) := hb2'
    have htd0 : 0 ≤ at_.tdiv ds.length := Int.tdiv_nonneg ha (by omega)
    have htd1 : at_.tdiv ds.length ≤ at_ := Int.tdiv_le_self _ ha
    have hwr : IntKind.wrap .i64 (at_.tdiv (ds.length : Int)) = at_.tdiv (ds.length : Int) := IntWalk.i64_in _ (by omega)
    obtain ⟨htm2, hlt2⟩ := plc_lt (at_ := at_.tdiv ds.length) (n := x.n) htd0 (by omega)
    generalize hj : plc (at_.tdiv ds.length) x.n = j at *
    have hA2d := hA2.chg (chg_drew w2 NoS) (fun _ _ x => x)
    have hxr2 := hA2d.row x hxm
    obtain ⟨gx, hgx⟩ : ∃ gx, x.v = .slice (some ⟨gx, 0, none⟩) x.n cx := by
      rcases hxr.1.2 with ⟨h1, h2⟩ | ⟨g', c', cur', h1, _⟩
      · omega
      · rw [hxv] at h1; injection h1 with h1 h3 h4; exact ⟨g', by rw [hxv, h1]⟩
    have hax' : ax = some ⟨gx, 0, none⟩ := by rw [hxv] at hgx; injection hgx
    subst hax'
    have hjl : j < x.bs.length := by have := hxr.1.1; omega
    obtain ⟨b, hb⟩ := hxr.2 _ (List.getElem_mem hjl)
    have hbj : x.bs[j]? = some (.int .u8 b.toNat) := by rw [List.getElem?_eq_getElem hjl, hb]
    have hown2 : w2.drew.ownsRow base 5 1 (.slice (some ⟨gx, 0, none⟩) x.n cx) x.n x.bs := hgx ▸ hxr2.1
    obtain ⟨A, eA, hcj⟩ := own_cell hown2 hbj
    cases eA
    rw [addK_lit, Nat.zero_add] at hcj
    refine ⟨by omega, some ⟨gx, 0, none⟩, x.n, cx, by rw [← hgx]; exact e0 hbd rfl, some ⟨gx, 0, none⟩, x.n, cx, by rw [← hgx]; exact e0 hbd rfl, by omega, ?_⟩
    rw [hwr, htm2]
    refine ⟨by omega, by omega, b.toNat, ?_, by omega, by omega, ?_⟩
    · rw [addK_lit]; simpa using hcj
    simp only [wSome, addK_lit, xor_u8]
    have ej : (0 + (j : Int).toNat * 1) = j := by omega
    rw [ej]
    refine setW_own hown2 (by omega) rfl ?_
    intro w3 ho3 hc3 hs3
    have hgxl : gx ≠ p ∧ vl.ownBlock ≠ some gx ∧ vc.ownBlock ≠ some gx := by
      obtain ⟨cs', hc'⟩ := own_typed' hown2 rfl
      refine ⟨fun e => ?_, own_ne' hA2d.l hc' (by decide), own_ne' hA2d.came hc' (by decide)⟩
      subst e
      exact own_ne' hown2 hA2d.obj (by decide) rfl
    have hobj3 : w3.heap[p]? = some (.cells #[vl, vc] 47 (0, 0)) := hc3.blk hA2d.obj (fun e => hgxl.1 e.symm)
    have hl3 : w3.ownsRow base 49 2 vl ds.length (rowOf ds) := own_of_chg hA2d.l hc3 (fun k hk e => hgxl.2.1 (by rw [hk, show k = gx from e]))
    have hc3c : w3.ownsRow base 31 1 vc cs.length (cs.map Dg.v) := own_of_chg hA2d.came hc3 (fun k hk e => hgxl.2.2 (by rw [hk, show k = gx from e]))
    refine ⟨some ⟨g, 0, none⟩, ds.length, c1, by rw [cell_blk hobj3, hvl]; rfl, by omega, by omega, ?_⟩
    simp only [addK_lit]
    have ek : 0 + k * 2 + 1 = k * 2 + 1 := by omega
    rw [ek]
    rw [hvl] at hl3
    refine setW_own hl3 (by omega) rfl ?_
    intro w4 ho4 hc4 hs4
    have hgp : g ≠ p := fun e => by
      subst e
      exact own_ne' (hvl ▸ hA.l) hA.obj (by decide) rfl
    have hfg : fp g := hA.fpl g (by rw [hvl]; rfl)
    have hfx : fp gx := hA.fpd x hxm gx (by rw [hgx]; rfl)
    let y : Dg := ⟨x.v, x.n, x.bs.set j (.int .u8 (b ^^^ 0x5a).toNat), true⟩
    have hkeep : ∀ {e : TypeId} {size n : Nat} {v : Value} {xs : List Value}, e ≠ 49 → v.ownBlock ≠ some gx → w2.drew.ownsRow base e size v n xs → w4.ownsRow base e size v n xs := by
      intro e size n v xs h49 hn ho
      have h1 := own_of_chg ho hc3 (fun k hk e => hn (by rw [hk, show k = gx from e]))
      obtain ⟨cs', hc'⟩ := own_typed' hl3 rfl
      exact own_of_chg h1 hc4 (fun k hk e' => by
        have e2 : k = g := e'
        subst e2
        exact own_ne' h1 hc' h49 hk)
    have hndb : ∀ d ∈ ds.set k y ++ cs, d = y ∨ (d ∈ ds ++ cs ∧ d.v.ownBlock ≠ some gx) := by
      intro d hd
      have hperm : (ds ++ cs).Perm (x :: (ds.eraseIdx k ++ cs)) := (perm_erase hx).append_right cs
      have hnd : (blks (x :: (ds.eraseIdx k ++ cs))).Nodup := ((List.Perm.filterMap (fun d : Dg => d.v.ownBlock) hperm).nodup_iff).1 hA.nodup
      have hnot : ∀ z ∈ ds.eraseIdx k ++ cs, z.v.ownBlock ≠ some gx := fun z hz hzk => by
        unfold blks at hnd
        rw [List.filterMap_cons, show x.v.ownBlock = some gx from by rw [hgx]; rfl] at hnd
        exact (List.nodup_cons.1 hnd).1 (mem_blks.2 ⟨z, hz, hzk⟩)
      have hperm2 : (ds.set k y ++ cs).Perm (y :: (ds.eraseIdx k ++ cs)) := by
        have h1 : (ds.set k y)[k]? = some y := by simp [hlt]
        have h2 := perm_erase h1
        have h3 : (ds.set k y).eraseIdx k = ds.eraseIdx k := by rw [List.eraseIdx_set_eq]
        rw [h3] at h2
        exact h2.append_right cs
      rcases List.mem_cons.1 (hperm2.mem_iff.1 hd) with rfl | h
      · exact .inl rfl
      · exact .inr ⟨hperm.mem_iff.2 (List.mem_cons_of_mem _ h), hnot d h⟩
    have hc24 : Chg fp w' w4 := by
      refine (hcf2.trans (chg_drew w2 fp)).trans ?_
      exact (hc3.mono fun k _ hk => by rw [show k = gx from hk]; exact hfx).trans (hc4.mono fun k _ hk => by rw [show k = g from hk]; exact hfg)
    refine ⟨trivial, _, _, .change ds cs x y b (by rw [hk]; exact hx) ⟨by simpa using hch, hxn⟩ (by rw [hj]; exact hbj) ⟨rfl, rfl, by rw [hj]⟩, ⟨vl, vc, hc4.blk hobj3 (fun e => hgp e.symm), ?_, hkeep (by decide) hgxl.2.2 hA2d.came, ?_, ?_, .inl hA.fpp, fun k hk => .inl (hA.fpl k hk), fun k hk => .inl (hA.fpc k hk), ?_, hG hc24.size⟩, hc24⟩
    · rw [List.length_set, hk, ← rowOf_set hx (y := y) rfl, hvl]; exact ho4
    · intro d hd
      rw [hk] at hd
      rcases hndb d hd with rfl | ⟨h, hn⟩
      · refine ⟨?_, ?_⟩
        · have h1 := own_of_chg ho3 hc4 (fun k hk e => hgxl.2.1 (by
            have h2 : gx = k := by simpa [Value.ownBlock] using hk
            rw [hvl, h2, show k = g from e]; rfl))
          show w4.ownsRow base 5 1 x.v x.n _
          rw [hgx]; exact h1
        · intro u hu
          rcases mem_set_of hu with h | rfl
          · exact hxr.2 u h
          · exact ⟨_, rfl⟩
      · exact ⟨hkeep (by decide) hn (hA2d.row d h).1, (hA.row d h).2⟩
    · rw [hk, blks_append, blks_set hx (y := y) rfl, ← blks_append]; exact hA.nodup
    · intro d hd k' hk'
      rw [hk] at hd
      rcases hndb d hd with rfl | ⟨h, hn⟩
      · exact .inl (hA.fpd x hxm k' hk')
      · exact .inl (hA.fpd d h k' hk')
  rw [if_neg (by simp; exact w3')]
  have hA2d := hA2.chg (chg_drew w2 NoS) (fun _ _ x => x)
  have hnfb : ¬ fp w'.heap.size := fun h => by have := hA.fpb _ h; omega
  have hwk : IntKind.wrap .i64 ((k : Int) + 1) = ((k + 1 : Nat) : Int) := by rw [IntWalk.i64_in _ (by omega)]; omega
  have hwl : IntKind.wrap .i64 ((ds.length : Int) - 1) = ((ds.length - 1 : Nat) : Int) := by rw [IntWalk.i64_in _ (by omega)]; omega
  obtain ⟨g2, c2, hvl2', hc2, hp2, _⟩ := hcell hA2d
  simp only [wSome, addK_lit, Nat.add_zero, hwk, hwl, Int.toNat_natCast, Nat.sub_zero]
  refine ⟨_, _, _, hp2, by omega, by omega, _, _, _, hp2, by omega, by omega, ?_⟩
  refine runV_mono (erased2 (R := ?RR) hvl2' rfl rfl hA2d hx hl ?first) ?second
  case second =>
    rintro v w3 ⟨y, hy, a', n', c', hcell', hle, hset⟩
    refine ⟨y, hy, a', n', c', hcell', by omega, by omega, ?_⟩
    exact hset
  case first =>
    intro w4 vl' hA4 hnot hown4 hc4 hsz4 hoth
    have hb4 : w4.heap[w'.heap.size]? = some (.cells #[x.v, .bool x.ch] 49 (0, 0)) := hoth _ _ (by rw [heap_drew]; exact hb2') hnfb
    have hc04 : Chg fp w' w4 := (hcf2.trans (chg_drew w2 fp)).trans hc4
    have hA4d := hA4.chg (chg_drew w4 NoS) (fun _ _ x => x)
    have hown4d : w4.drew.ownsRow base 5 1 x.v x.n x.bs := own_of_chg hown4 (chg_drew w4 NoS) (fun _ _ x => x)
    rw [size_drew] at hsz4
    have hlen : (ds.eraseIdx k).length = ds.length - 1 := by rw [List.length_eraseIdx, if_pos hlt]
    have hsz04 : w'.heap.size ≤ w4.heap.size := hc04.size
    by_cases w0 : what = 0
    · subst w0
      rw [if_pos (by simp)]
      obtain ⟨ac, cc, hvc, _, _⟩ := own_form hA4d.came
      refine ⟨ac, cs.length, cc, by rw [← hvc]; exact e0 (by rw [heap_drew]; exact hA4.obj) rfl, ax, x.n, cx, by rw [← hxv]; exact e0 (by rw [heap_drew]; exact hb4) rfl, (chg_alloc _ _ NoS).sameOld, ?_⟩
      rw [← hvc, ← hxv]
      simp only [Nat.zero_add]
      refine push_c hA4d hown4d hxr.2 hnot hl2 ?_
      intro w5 hA5 hc5
      have hs5 := hc5.size
      rw [size_drew] at hs5
      refine ⟨trivial, _, _, .bring ds cs x (by rw [hk]; exact hx), ?_, (hc04.trans (chg_drew w4 fp)).trans hc5⟩
      rw [hk]
      exact hA5.widen (fun j hj => hj.imp (fun x => x) fun hj => ⟨by have := hj.1; rw [size_drew] at this; omega, hj.2⟩) (hG (by omega))
    rw [if_neg (by simpa using w0)]
    by_cases w4' : what = 4
    · subst w4'
      rw [if_pos (by simp)]
      obtain ⟨al, cl, hvl, _, _⟩ := own_form hA4d.l
      refine ⟨al, (ds.eraseIdx k).length, cl, by rw [← hvl]; exact e0 (by rw [heap_drew]; exact hA4.obj) rfl, ax, x.n, cx, by rw [← hxv]; exact e0 (by rw [heap_drew]; exact hb4) rfl, x.ch, e0 (by rw [heap_drew]; exact hb4) rfl, (chg_alloc _ _ NoS).sameOld, ?_⟩
      rw [← hvl, ← hxv]
      refine push_l hA4d hown4d hxr.2 hnot (by omega) ?_
      intro w5 hA5 hc5
      have hs5 := hc5.size
      rw [size_drew] at hs5
      refine ⟨trivial, _, _, .delay ds cs x (by rw [hk]; exact hx), ?_, (hc04.trans (chg_drew w4 fp)).trans hc5⟩
      rw [hk]
      exact hA5.widen (fun j hj => hj.imp (fun x => x) fun hj => ⟨by have := hj.1; rw [size_drew] at this; omega, hj.2⟩) (hG (by omega))
    rw [if_neg (by simpa using w4')]
    have w1' : what = 1 := by omega
    subst w1'
    exact ⟨trivial, _, _, .lose ds cs x (by rw [hk]; exact hx), ⟨_, _, by rw [hk]; exact hA4.widen (fun k hk => .inl hk) (hG hsz04)⟩, hc04⟩
end Go.Proofs.Ytcfagkmkfjhhiaa.B
