/-
  What the calls of an air do to it: contracts.
-/
import Derived.Test.YtcfagkmkfjhhiaaBA
set_option linter.unusedVariables false
set_option linter.unusedSimpArgs false
namespace Go.Proofs.Ytcfagkmkfjhhiaa.B
open Go Go.Proofs Go.Proofs.YtcfagkmkfjhhiaaEng

structure Dg where
  v : Value
  n : Nat
  bs : List Value
  ch : Bool
def bytesV (bs : List Value) : Prop := ∀ u ∈ bs, ∃ x : UInt8, u = .int .u8 x.toNat
theorem bytesV.one {bs : List Value} (h : bytesV bs) : ∀ u ∈ bs, u.oneCell' = true := fun u hu => by
  obtain ⟨x, rfl⟩ := h u hu; rfl
def rowOf (ds : List Dg) : List Value := ds.flatMap fun d => [d.v, .bool d.ch]
theorem rowOf_snoc (ds : List Dg) (d : Dg) : rowOf (ds ++ [d]) = rowOf ds ++ [d.v, .bool d.ch] := by simp [rowOf]
def blks (ds : List Dg) : List Nat := ds.filterMap (·.v.ownBlock)
/-- An air at block p, its footprint fp. -/
structure AirAt (w : World) (base p : Nat) (fp : Nat → Prop) (ds cs : List Dg) (vl vc : Value) : Prop where
  obj : w.heap[p]? = some (.cells #[vl, vc] 47 (0, 0))
  l : w.ownsRow base 49 2 vl ds.length (rowOf ds)
  came : w.ownsRow base 31 1 vc cs.length (cs.map Dg.v)
  row : ∀ d ∈ ds ++ cs, w.ownsRow base 5 1 d.v d.n d.bs ∧ bytesV d.bs
  nodup : (blks (ds ++ cs)).Nodup
  fpp : fp p
  fpl : ∀ k, vl.ownBlock = some k → fp k
  fpc : ∀ k, vc.ownBlock = some k → fp k
  fpd : ∀ d ∈ ds ++ cs, ∀ k, d.v.ownBlock = some k → fp k
  fpb : ∀ k, fp k → base ≤ k ∧ k < w.heap.size
def AirSt (w : World) (base p : Nat) (fp : Nat → Prop) (ds cs : List Dg) : Prop := ∃ vl vc, AirAt w base p fp ds cs vl vc
def grown (fp : Nat → Prop) (w w' : World) : Nat → Prop := fun k => fp k ∨ (w.heap.size ≤ k ∧ k < w'.heap.size)

theorem info5 : (Try.prog.info? 5).map (fun i => (i.zero, i.size, i.bytes)) = some (some (.int .u8 0), 1, 1) := by kernel_rfl
theorem info31 : (Try.prog.info? 31).map (fun i => (i.zero, i.size, i.bytes)) = some (some (.slice none 0 0), 1, 24) := by kernel_rfl
theorem info49 : (Try.prog.info? 49).map (fun i => (i.zero, i.size, i.bytes)) = some (some (.agg #[.slice none 0 0, .bool false]), 2, 32) := by kernel_rfl
theorem info_open {t : TypeId} {z : Value} {s b : Nat} (h : (Try.prog.info? t).map (fun i => (i.zero, i.size, i.bytes)) = some (some z, s, b)) : ∃ i, Try.prog.info? t = some i ∧ i.zero = some z ∧ i.size = s ∧ i.bytes = b := by
  obtain ⟨i, hi, he⟩ := Option.map_eq_some_iff.1 h
  simp only [Prod.mk.injEq] at he
  exact ⟨i, hi, he.1, he.2.1, he.2.2⟩

theorem own_typed' {w : World} {base : Nat} {e : TypeId} {size n : Nat} {v : Value} {xs : List Value} (h : w.ownsRow base e size v n xs) {k : Nat} (hk : v.ownBlock = some k) : ∃ cs, w.heap[k]? = some (.cells cs e (0, 0)) := by
  rcases h.2 with ⟨rfl, _⟩ | ⟨g, cap, cur, rfl, hg, hh, r⟩
  · simp [Value.ownBlock] at hk
  · have : g = k := by simpa [Value.ownBlock] using hk
    subst this
    exact ⟨cur, hh⟩
theorem own_ne' {w : World} {base : Nat} {e t : TypeId} {size n : Nat} {v : Value} {xs : List Value} (h : w.ownsRow base e size v n xs) {k : Nat} {cs : Array Value} (hb : w.heap[k]? = some (.cells cs t (0, 0))) (ht : e ≠ t) : v.ownBlock ≠ some k := fun hk => by
  obtain ⟨cs', hc⟩ := own_typed' h hk
  rw [hc] at hb
  injection hb with hb
  injection hb with _ hb
  exact ht hb

/-- append of what was read to a fresh empty row of bytes -/
theorem append_fresh {w : World} {base n c : Nat} {a : Option Addr} {bs : List Value} {K : Value → World → Prop} {E : PanW} (hn : bs.length = n) (hr : Reads w a bs) (h0 : a = none → n = 0) (h1 : ∀ u ∈ bs, u.oneCell' = true) (hb : n ≤ 140737488355328) (hbase : base ≤ w.heap.size)
    (h : ∀ v' w', w'.ownsRow base 5 1 v' n bs → Chg NoS w w' → (∀ k, v'.ownBlock = some k → w.heap.size ≤ k) → K v' w') :
    runV Try.prog (Builtin.append_ #[31, 31] 31 #[Value.slice (some { block := w.heap.size, off := 0 }) 0 0, Value.slice a n c]) (w.alloc (.cells #[] 5)) K E := by
  obtain ⟨i, hi, hz, hs, hby⟩ := info_open info5
  have hown : (w.alloc (.cells #[] 5)).ownsRow base 5 1 (.slice (some { block := w.heap.size, off := 0 }) 0 0) 0 [] :=
    ⟨rfl, .inr ⟨w.heap.size, 0, #[], rfl, hbase, blk_alloc w _, Nat.le_refl _, by simp [maxLen], rfl, rfl⟩⟩
  refine append_own (base := base) (n := 0) (m := n) Try.underlying31 hi hz hs rfl hown (src_slice Try.underlying31 (by simpa using hn) (hr.chg (chg_alloc w _ NoS) (fun _ _ x => x)) h0 h1) (by rw [hby]; omega) (by omega) (by rw [size_alloc]; omega) ?_
  intro v' w' ho hc hb1 hb2
  have hc2 : Chg NoS w w' := by
    have h3 := (chg_alloc w (.cells #[] 5) (fun k => (Value.slice (some { block := w.heap.size, off := 0 }) 0 0).ownBlock = some k)).trans hc
    exact h3.mono fun k hk hx => by
      have : w.heap.size = k := by simpa [Value.ownBlock] using hx
      omega
  refine h v' w' (by simpa using ho) hc2 fun k hk => ?_
  rcases hb1 with e | e
  · rw [e] at hk; have : w.heap.size = k := by simpa [Value.ownBlock] using hk
    omega
  · rw [e, size_alloc] at hk; have := Option.some.inj hk; omega

theorem blks_append (a b : List Dg) : blks (a ++ b) = blks a ++ blks b := by simp [blks]
theorem mem_blks {ds : List Dg} {k : Nat} : k ∈ blks ds ↔ ∃ d ∈ ds, d.v.ownBlock = some k := by simp [blks]

/-- An air in a world in which its footprint is as it was. -/
theorem AirAt.chg {S : Nat → Prop} {w w' : World} {base p : Nat} {fp : Nat → Prop} {ds cs : List Dg} {vl vc : Value} (h : AirAt w base p fp ds cs vl vc) (hc : Chg S w w') (hs : ∀ k, fp k → ¬ S k) : AirAt w' base p fp ds cs vl vc :=
  ⟨hc.blk h.obj (hs _ h.fpp), own_of_chg h.l hc (fun k hk => hs k (h.fpl k hk)), own_of_chg h.came hc (fun k hk => hs k (h.fpc k hk)),
    fun d hd => ⟨own_of_chg (h.row d hd).1 hc (fun k hk => hs k (h.fpd d hd k hk)), (h.row d hd).2⟩, h.nodup, h.fpp, h.fpl, h.fpc, h.fpd, fun k hk => ⟨(h.fpb k hk).1, Nat.lt_of_lt_of_le (h.fpb k hk).2 hc.size⟩⟩

theorem AirAt.widen {w : World} {base p : Nat} {fp fp' : Nat → Prop} {ds cs : List Dg} {vl vc : Value} (h : AirAt w base p fp ds cs vl vc) (hs : ∀ k, fp k → fp' k) (hb : ∀ k, fp' k → base ≤ k ∧ k < w.heap.size) : AirAt w base p fp' ds cs vl vc :=
  ⟨h.obj, h.l, h.came, h.row, h.nodup, hs _ h.fpp, fun k hk => hs k (h.fpl k hk), fun k hk => hs k (h.fpc k hk), fun d hd k hk => hs k (h.fpd d hd k hk), hb⟩

theorem nodup_snoc_mid {ds cs : List Dg} {d : Dg} (h : (blks (ds ++ cs)).Nodup) (hd : ∀ k, d.v.ownBlock = some k → k ∉ blks (ds ++ cs)) : (blks ((ds ++ [d]) ++ cs)).Nodup := by
  have hp : (blks ((ds ++ [d]) ++ cs)).Perm (blks [d] ++ blks (ds ++ cs)) := by
    simp only [blks_append]
    refine (List.perm_append_comm.append_right _).trans ?_
    rw [List.append_assoc]
  rw [hp.nodup_iff]
  cases hob : d.v.ownBlock with
  | none => have : blks [d] = [] := by simp [blks, hob]
            rw [this]; simpa using h
  | some k =>
    have hb0 : blks [d] = [k] := by simp [blks, hob]
    rw [hb0]
    exact List.nodup_cons.2 ⟨hd k hob, h⟩
theorem mem_snoc_mid {ds cs : List Dg} {d x : Dg} : x ∈ (ds ++ [d]) ++ cs ↔ x ∈ ds ++ cs ∨ x = d := by
  simp only [List.mem_append, List.mem_singleton]
  constructor
  · rintro ((h | h) | h) <;> simp [h]
  · rintro ((h | h) | h) <;> simp [h]

/-- a.l = append(a.l, d) -/
theorem push_l {w : World} {base p : Nat} {fp : Nat → Prop} {ds cs : List Dg} {vl vc : Value} {d : Dg} {R : World → Prop} {E : PanW} (hA : AirAt w base p fp ds cs vl vc) (hd : w.ownsRow base 5 1 d.v d.n d.bs) (hb : bytesV d.bs)
    (hnew : ∀ k, d.v.ownBlock = some k → fp k ∧ k ∉ blks (ds ++ cs)) (hl : ds.length ≤ 1099511627776) (h : ∀ w', AirSt w' base p (grown fp w w') (ds ++ [d]) cs → Chg fp w w' → R w') :
    runV Try.prog (Builtin.append_ #[45, 45] 45 #[vl, .slice (some { block := w.heap.size, off := 0 }) 1 1]) (w.alloc (.cells #[d.v, .bool d.ch] 49))
      (fun v w => ∃ a, ∃ n, ∃ c, v = .slice a n c ∧ setW w ⟨p, 0, none⟩ (.slice a n c) R) E := by
  have hpb := hA.fpb p hA.fpp
  obtain ⟨i, hi, hz, hs, hby⟩ := info_open info49
  have hA2 := hA.chg (chg_alloc w (.cells #[d.v, .bool d.ch] 49) NoS) (fun _ _ x => x)
  obtain ⟨ad, cd, hdv, _, _⟩ := own_form hd
  refine append_own (base := base) (n := ds.length) (m := 1) Try.underlying45 hi hz hs rfl hA2.l (src_slice (news := [d.v, .bool d.ch]) Try.underlying45 rfl ?_ (fun e => by cases e) (by rw [hdv]; simp [Value.oneCell'])) (by rw [hby]; omega) (by omega) (Nat.le_of_lt (Nat.lt_of_le_of_lt hpb.1 (hA2.fpb p hA2.fpp).2)) ?_
  · intro j u hu
    refine ⟨_, rfl, ?_⟩
    rw [addK_lit, cell_blk (blk_alloc w _), Nat.zero_add]
    simpa using hu
  intro v2 w2 ho2 hc2' hb2 _
  obtain ⟨a3, c3, hv2, hc3, _⟩ := own_form ho2
  refine ⟨a3, ds.length + 1, c3, hv2, ?_⟩
  subst hv2
  have hpl : vl.ownBlock ≠ some p := own_ne' hA.l hA.obj (by decide)
  have hobj2 : w2.heap[p]? = some (.cells #[vl, vc] 47 (0, 0)) := hc2'.blk hA2.obj hpl
  refine setW_blk hobj2 (by simp) rfl ?_
  intro w3 hb3 hc3' hs3
  have hcall : Chg fp w w3 := by
    refine (chg_alloc w (.cells #[d.v, .bool d.ch] 49) fp).trans ?_
    exact (hc2'.mono fun k _ hk => hA.fpl k hk).trans (hc3'.mono fun k _ hk => by rw [show k = p from hk]; exact hA.fpp)
  have hfr2 : ∀ k, (Value.slice a3 (ds.length + 1) c3).ownBlock = some k → fp k ∨ (w.heap.size ≤ k ∧ k < w3.heap.size) := by
    intro k hk
    rcases hb2 with e | e
    · exact .inl (hA.fpl k (e ▸ hk))
    · right
      have hlt := own_lt' ho2 hk
      rw [e, size_alloc] at hk
      have := Option.some.inj hk
      rw [hs3]
      exact ⟨by omega, hlt.1⟩
  have hkeep : ∀ {e : TypeId} {size n : Nat} {v : Value} {xs : List Value}, e ≠ 49 → e ≠ 47 → w.ownsRow base e size v n xs → w3.ownsRow base e size v n xs := by
    intro e size n v xs h49 h47 ho
    have h1 := own_of_chg ho (chg_alloc w (.cells #[d.v, .bool d.ch] 49) NoS) (fun _ _ x => x)
    have h2 := own_of_chg h1 hc2' (fun k hk hx => by
      obtain ⟨cs', hc'⟩ := own_typed' hA2.l hx
      exact own_ne' h1 hc' h49 hk)
    exact own_of_chg h2 hc3' (fun k hk hx => by
      have e' : k = p := hx
      subst e'
      exact own_ne' h2 hobj2 h47 hk)
  refine h w3 ⟨.slice a3 (ds.length + 1) c3, vc, by simpa using hb3, ?_, hkeep (by decide) (by decide) hA.came, ?_, nodup_snoc_mid hA.nodup (fun k hk => (hnew k hk).2), .inl hA.fpp, hfr2, fun k hk => .inl (hA.fpc k hk), ?_, ?_⟩ hcall
  · rw [rowOf_snoc, List.length_append]
    exact own_of_chg ho2 hc3' (fun k hk hx => by
      have e : k = p := hx
      subst e
      exact own_ne' ho2 hobj2 (by decide) hk)
  · intro x hx
    rcases mem_snoc_mid.1 hx with h | rfl
    · exact ⟨hkeep (by decide) (by decide) (hA.row x h).1, (hA.row x h).2⟩
    · exact ⟨hkeep (by decide) (by decide) hd, hb⟩
  · intro x hx k hk
    rcases mem_snoc_mid.1 hx with h | rfl
    · exact .inl (hA.fpd x h k hk)
    · exact .inl (hnew k hk).1
  · intro k hk
    have hsz := hcall.size
    rcases hk with hk | hk
    · have := hA.fpb k hk; exact ⟨this.1, by omega⟩
    · exact ⟨by omega, hk.2⟩

/-- a.came = append(a.came, d.b) -/
theorem push_c {w : World} {base p : Nat} {fp : Nat → Prop} {ds cs : List Dg} {vl vc : Value} {d : Dg} {R : World → Prop} {E : PanW} (hA : AirAt w base p fp ds cs vl vc) (hd : w.ownsRow base 5 1 d.v d.n d.bs) (hb : bytesV d.bs)
    (hnew : ∀ k, d.v.ownBlock = some k → fp k ∧ k ∉ blks (ds ++ cs)) (hl : cs.length ≤ 1099511627776) (h : ∀ w', AirSt w' base p (grown fp w w') ds (cs ++ [d]) → Chg fp w w' → R w') :
    runV Try.prog (Builtin.append_ #[28, 28] 28 #[vc, .slice (some { block := w.heap.size, off := 0 }) 1 1]) (w.alloc (.cells #[d.v] 31))
      (fun v w => ∃ a, ∃ n, ∃ c, v = .slice a n c ∧ setW w ⟨p, 1, none⟩ (.slice a n c) R) E := by
  have hpb := hA.fpb p hA.fpp
  obtain ⟨i, hi, hz, hs, hby⟩ := info_open info31
  have hA2 := hA.chg (chg_alloc w (.cells #[d.v] 31) NoS) (fun _ _ x => x)
  obtain ⟨ad, cd, hdv, _, _⟩ := own_form hd
  refine append_own (base := base) (n := cs.length) (m := 1) Try.underlying28 hi hz hs rfl hA2.came (src_slice (news := [d.v]) Try.underlying28 rfl ?_ (fun e => by cases e) (by rw [hdv]; simp [Value.oneCell'])) (by rw [hby]; omega) (by omega) (Nat.le_of_lt (Nat.lt_of_le_of_lt hpb.1 (hA2.fpb p hA2.fpp).2)) ?_
  · intro j u hu
    refine ⟨_, rfl, ?_⟩
    rw [addK_lit, cell_blk (blk_alloc w _), Nat.zero_add]
    simpa using hu
  intro v2 w2 ho2 hc2' hb2 _
  obtain ⟨a3, c3, hv2, hc3, _⟩ := own_form ho2
  refine ⟨a3, cs.length + 1, c3, hv2, ?_⟩
  subst hv2
  have hpl : vc.ownBlock ≠ some p := own_ne' hA.came hA.obj (by decide)
  have hobj2 : w2.heap[p]? = some (.cells #[vl, vc] 47 (0, 0)) := hc2'.blk hA2.obj hpl
  refine setW_blk hobj2 (by simp) rfl ?_
  intro w3 hb3 hc3' hs3
  have hcall : Chg fp w w3 := by
    refine (chg_alloc w (.cells #[d.v] 31) fp).trans ?_
    exact (hc2'.mono fun k _ hk => hA.fpc k hk).trans (hc3'.mono fun k _ hk => by rw [show k = p from hk]; exact hA.fpp)
  have hfr2 : ∀ k, (Value.slice a3 (cs.length + 1) c3).ownBlock = some k → fp k ∨ (w.heap.size ≤ k ∧ k < w3.heap.size) := by
    intro k hk
    rcases hb2 with e | e
    · exact .inl (hA.fpc k (e ▸ hk))
    · right
      have hlt := own_lt' ho2 hk
      rw [e, size_alloc] at hk
      have := Option.some.inj hk
      rw [hs3]
      exact ⟨by omega, hlt.1⟩
  have hkeep : ∀ {e : TypeId} {size n : Nat} {v : Value} {xs : List Value}, e ≠ 31 → e ≠ 47 → w.ownsRow base e size v n xs → w3.ownsRow base e size v n xs := by
    intro e size n v xs h49 h47 ho
    have h1 := own_of_chg ho (chg_alloc w (.cells #[d.v] 31) NoS) (fun _ _ x => x)
    have h2 := own_of_chg h1 hc2' (fun k hk hx => by
      obtain ⟨cs', hc'⟩ := own_typed' hA2.came hx
      exact own_ne' h1 hc' h49 hk)
    exact own_of_chg h2 hc3' (fun k hk hx => by
      have e' : k = p := hx
      subst e'
      exact own_ne' h2 hobj2 h47 hk)
  have hmem : ∀ x, x ∈ ds ++ (cs ++ [d]) ↔ x ∈ ds ++ cs ∨ x = d := fun x => by simp [or_assoc]
  refine h w3 ⟨vl, .slice a3 (cs.length + 1) c3, by simpa using hb3, hkeep (by decide) (by decide) hA.l, ?_, ?_, ?_, .inl hA.fpp, fun k hk => .inl (hA.fpl k hk), hfr2, ?_, ?_⟩ hcall
  · rw [List.map_append, List.length_append]
    exact own_of_chg ho2 hc3' (fun k hk hx => by
      have e : k = p := hx
      subst e
      exact own_ne' ho2 hobj2 (by decide) hk)
  · intro x hx
    rcases (hmem x).1 hx with h | rfl
    · exact ⟨hkeep (by decide) (by decide) (hA.row x h).1, (hA.row x h).2⟩
    · exact ⟨hkeep (by decide) (by decide) hd, hb⟩
  · have hp : (blks (ds ++ (cs ++ [d]))).Perm (blks ((ds ++ [d]) ++ cs)) := by
      simp only [blks_append, List.append_assoc]
      exact List.perm_append_comm.append_left _
    rw [hp.nodup_iff]
    exact nodup_snoc_mid hA.nodup (fun k hk => (hnew k hk).2)
  · intro x hx k hk
    rcases (hmem x).1 hx with h | rfl
    · exact .inl (hA.fpd x h k hk)
    · exact .inl (hnew k hk).1
  · intro k hk
    have hsz := hcall.size
    rcases hk with hk | hk
    · have := hA.fpb k hk; exact ⟨this.1, by omega⟩
    · exact ⟨by omega, hk.2⟩

theorem Put_nil (a : Option Addr) (n c : Nat) (w : World) : Calls Try.prog 11 #[.pointer none, .slice a n c] w (endW (fun v w' => v = .tuple #[] ∧ w' = w) (fun _ _ => False)) := by
  refine F11_calls none a n c ?_
  unfold F11
  rw [if_neg (by simp)]
  exact ⟨rfl, rfl⟩

theorem Put_ok {w : World} {base p n c : Nat} {fp : Nat → Prop} {ds cs : List Dg} {a : Option Addr} {bs : List Value} (hA : AirSt w base p fp ds cs) (hn : bs.length = n) (hr : Reads w a bs) (h0 : a = none → n = 0) (hb : bytesV bs) (hl : n ≤ 1099511627776) (hl2 : ds.length ≤ 1099511627776) :
    Calls Try.prog 11 #[.pointer (some ⟨p, 0, none⟩), .slice a n c] w (endW (fun v w' => v = .tuple #[] ∧ ∃ d : Dg, d.n = n ∧ d.bs = bs ∧ d.ch = false ∧ AirSt w' base p (grown fp w w') (ds ++ [d]) cs ∧ Chg fp w w') (fun _ _ => False)) := by
  obtain ⟨vl, vc, hA⟩ := hA
  refine F11_calls _ a n c ?_
  unfold F11
  rw [if_pos (by simp)]
  obtain ⟨a1, c1, hvl, hc1, _⟩ := own_form hA.l
  have hpb := hA.fpb p hA.fpp
  refine ⟨a1, ds.length, c1, ?_, (chg_alloc _ _ NoS).sameOld, ?_⟩
  · rw [addK_zero, cell_blk (w := w.drew) (by rw [heap_drew]; exact hA.obj), ← hvl]; rfl
  refine append_fresh (w := w.drew) (base := base) hn (hr.chg (chg_drew w NoS) (fun _ _ x => x)) h0 hb.one (by omega) (Nat.le_of_lt (Nat.lt_of_le_of_lt hpb.1 hpb.2)) ?_
  intro v1 w1 ho1 hc1' hb1
  have hc01 : Chg NoS w w1 := (chg_drew w NoS).trans hc1'
  obtain ⟨a2, c2, hv1, hc2, _⟩ := own_form ho1
  refine ⟨a2, n, c2, hv1, hc1'.sameOld, (hc1'.trans (chg_alloc _ _ NoS)).sameOld, ?_⟩
  subst hv1
  have hw1 : ∀ k, (Value.slice a2 n c2).ownBlock = some k → w.heap.size ≤ k ∧ k < w1.heap.size := fun k hk => ⟨hb1 k hk, (own_lt' ho1 hk).1⟩
  have hA1 := (hA.chg hc01 (fun _ _ x => x)).widen (fp' := grown fp w w1) (fun k hk => .inl hk) (fun k hk => by
    have hsz := hc01.size
    rcases hk with hk | hk
    · have := hA.fpb k hk; exact ⟨this.1, by omega⟩
    · exact ⟨by omega, hk.2⟩)
  rw [← hvl]
  refine push_l (d := ⟨.slice a2 n c2, n, bs, false⟩) hA1 ho1 hb (fun k hk => ⟨.inr (hw1 k hk), fun hm => ?_⟩) hl2 ?_
  · obtain ⟨d, hd, hdk⟩ := mem_blks.1 hm
    have := hA.fpb k (hA.fpd d hd k hdk)
    have := hw1 k hk
    omega
  intro w3 hA3 hc3
  refine ⟨rfl, ⟨.slice a2 n c2, n, bs, false⟩, rfl, rfl, rfl, ?_, ?_⟩
  · obtain ⟨vl', vc', hA3⟩ := hA3
    refine ⟨vl', vc', hA3.widen (fun k hk => ?_) (fun k hk => ?_)⟩
    · have h1 := hc01.size
      have h2 := hc3.size
      rcases hk with (hk | hk) | hk
      · exact .inl hk
      · exact .inr ⟨hk.1, by omega⟩
      · exact .inr ⟨by omega, hk.2⟩
    · have h1 := hc01.size
      have h2 := hc3.size
      rcases hk with hk | hk
      · have := hA.fpb k hk; exact ⟨this.1, by omega⟩
      · exact ⟨by omega, hk.2⟩
  · refine (hc01.mono (T := fp) (fun _ _ x => x.elim)).trans2 hc3 fun k hk hx => ?_
    rcases hx with hx | hx
    · exact hx
    · omega

theorem Clip_ok (a : Option Addr) (n c : Nat) (w : World) (hc : n ≤ c) : Calls Try.prog 21 #[.slice a n c] w (endW (fun v w' => v = .slice a n n ∧ w' = w) (fun _ _ => False)) := by
  refine F21_calls a n c ?_
  unfold F21
  refine ⟨by omega, by omega, by omega, by omega, ?_⟩
  have e : (if Int.toNat (n : Int) = 0 then a else Option.map (fun (a : Addr) => addK a 0) a) = a := by
    split
    · rfl
    · cases a <;> simp [addK_zero]
  rw [e]
  simp

theorem Came_nil (w : World) : Calls Try.prog 13 #[.pointer none] w (endW (fun v w' => v = .slice none 0 0 ∧ w' = w) (fun _ _ => False)) := by
  refine F13_calls none ?_
  unfold F13
  rw [if_pos (by simp)]
  exact ⟨rfl, rfl⟩
theorem Came_ok {w : World} {base p : Nat} {fp : Nat → Prop} {ds cs : List Dg} (hA : AirSt w base p fp ds cs) :
    Calls Try.prog 13 #[.pointer (some ⟨p, 0, none⟩)] w (endW (fun v w' => ∃ a, v = .slice a cs.length cs.length ∧ (∃ vc c, vc = .slice a cs.length c ∧ w'.ownsRow base 31 1 vc cs.length (cs.map Dg.v)) ∧ (∀ d ∈ cs, w'.ownsRow base 5 1 d.v d.n d.bs ∧ bytesV d.bs) ∧ (blks cs).Nodup ∧
      ∃ fp' : Nat → Prop, AirSt w' base p fp' ds [] ∧ (∀ k, fp' k → fp k) ∧ (∀ k, a.map (·.block) = some k → fp k ∧ ¬ fp' k) ∧ (∀ k ∈ blks cs, fp k ∧ ¬ fp' k) ∧ Chg fp w w' ∧ w'.heap.size = w.heap.size) (fun _ _ => False)) := by
  obtain ⟨vl, vc, hA⟩ := hA
  refine F13_calls _ ?_
  unfold F13
  rw [if_neg (by simp)]
  obtain ⟨a1, c1, hvc, hc1, _⟩ := own_form hA.came
  refine ⟨a1, cs.length, c1, ?_, ?_⟩
  · rw [addK_lit, cell_blk hA.obj, ← hvc]; rfl
  refine (Clip_ok a1 cs.length c1 w hc1).mono fun e w' h => ?_
  cases e with
  | panicked _ => exact h.elim
  | outgrown => exact h.elim
  | returned v =>
    obtain ⟨rfl, rfl⟩ := h
    refine ⟨a1, cs.length, cs.length, rfl, ?_⟩
    show setW w' (addK ⟨p, 0, none⟩ 1) _ _
    rw [addK_lit]
    refine setW_blk hA.obj (by simp) rfl ?_
    intro w2 hb2 hc2 hs2
    have hkeep : ∀ {e : TypeId} {size n : Nat} {v : Value} {xs : List Value}, e ≠ 47 → w'.ownsRow base e size v n xs → w2.ownsRow base e size v n xs := fun he ho =>
      own_of_chg ho hc2 (fun k hk hx => by
        have e' : k = p := hx
        subst e'
        exact own_ne' ho hA.obj he hk)
    refine ⟨a1, rfl, ⟨vc, c1, hvc, hkeep (by decide) hA.came⟩, fun d hd => ⟨hkeep (by decide) (hA.row d (List.mem_append_right _ hd)).1, (hA.row d (List.mem_append_right _ hd)).2⟩, ?_, fun k => fp k ∧ k ∉ blks cs ∧ vc.ownBlock ≠ some k, ⟨vl, .slice none 0 0, ?_⟩, fun k h => h.1, ?_, ?_, hc2.mono fun k _ hk => by rw [show k = p from hk]; exact hA.fpp, hs2⟩
    · have := hA.nodup; rw [blks_append] at this; exact (List.nodup_append.1 this).2.1
    · have hnd := hA.nodup
      rw [blks_append] at hnd
      have hdis := (List.nodup_append.1 hnd).2.2
      refine ⟨by simpa using hb2, hkeep (by decide) hA.l, own_nil' _ _ _ _, ?_, ?_, ?_, ?_, fun k hk => by simp [Value.ownBlock] at hk, ?_, ?_⟩
      · intro d hd
        rw [List.append_nil] at hd
        exact ⟨hkeep (by decide) (hA.row d (List.mem_append_left _ hd)).1, (hA.row d (List.mem_append_left _ hd)).2⟩
      · rw [List.append_nil]; exact (List.nodup_append.1 hnd).1
      · refine ⟨hA.fpp, fun hm => ?_, own_ne' hA.came hA.obj (by decide)⟩
        obtain ⟨d, hd, hdk⟩ := mem_blks.1 hm
        exact own_ne' (hA.row d (List.mem_append_right _ hd)).1 hA.obj (by decide) hdk
      · intro k hk
        obtain ⟨cs', hc'⟩ := own_typed' hA.l hk
        refine ⟨hA.fpl k hk, fun hm => ?_, own_ne' hA.came hc' (by decide)⟩
        obtain ⟨d, hd, hdk⟩ := mem_blks.1 hm
        exact own_ne' (hA.row d (List.mem_append_right _ hd)).1 hc' (by decide) hdk
      · intro d hd k hk
        rw [List.append_nil] at hd
        obtain ⟨cs', hc'⟩ := own_typed' (hA.row d (List.mem_append_left _ hd)).1 hk
        refine ⟨hA.fpd d (List.mem_append_left _ hd) k hk, fun hm => hdis k (mem_blks.2 ⟨d, hd, hk⟩) k hm rfl, own_ne' hA.came hc' (by decide)⟩
      · intro k hk
        have := hA.fpb k hk.1
        exact ⟨this.1, by omega⟩
    · intro k hk
      have hk' : vc.ownBlock = some k := by
        rw [hvc]
        cases a1 with
        | none => simp at hk
        | some A => simpa [Value.ownBlock] using hk
      exact ⟨hA.fpc k hk', fun h => h.2.2 hk'⟩
    · intro k hk
      obtain ⟨d, hd, hdk⟩ := mem_blks.1 hk
      exact ⟨hA.fpd d (List.mem_append_right _ hd) k hdk, fun h => h.2.1 hk⟩

theorem New_ok (w : World) (base : Nat) (hb : base ≤ w.heap.size) :
    Calls Try.prog 10 #[] w (endW (fun v w' => v = .pointer (some ⟨w.heap.size, 0, none⟩) ∧ AirSt w' base w.heap.size (fun k => k = w.heap.size) [] [] ∧ Chg NoS w w' ∧ w'.heap.size = w.heap.size + 1) (fun _ _ => False)) := by
  refine F10_calls ?_
  unfold F10
  exact ⟨rfl, ⟨_, _, blk_alloc w _, own_nil' _ _ _ _, own_nil' _ _ _ _, (fun d hd => by cases hd), by simp [blks], rfl, (fun k hk => by simp [Value.ownBlock] at hk), (fun k hk => by simp [Value.ownBlock] at hk), (fun d hd => by cases hd), (fun k hk => by subst hk; exact ⟨hb, by rw [size_alloc]; omega⟩)⟩, chg_alloc w _ NoS, size_alloc w _⟩
end Go.Proofs.Ytcfagkmkfjhhiaa.B
