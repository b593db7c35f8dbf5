/-
  The document's own air: its state, pushes.
-/
import Derived.Test.YtcfagkmkfjhhiaaAirI
set_option linter.unusedVariables false
set_option linter.unusedSimpArgs false
namespace Go.Proofs.Ytcfagkmkfjhhiaa.B
open Go Go.Proofs Go.Proofs.YtcfagkmkfjhhiaaEng
theorem info52 : (Try.prog.info? 52).map (fun i => (i.zero, i.size, i.bytes)) = some (some (.agg #[.slice none 0 0, .bool false]), 2, 32) := by kernel_rfl

/-- A reference air at block p, its footprint fp. -/
structure RefAt (w : World) (base p : Nat) (fp : Nat → Prop) (ds cs : List Dg) (vl vc : Value) : Prop where
  obj : w.heap[p]? = some (.cells #[vl, vc] 30 (0, 0))
  l : w.ownsRow base 52 2 vl ds.length (rowOf ds)
  came : w.ownsRow base 31 1 vc cs.length (cs.map Dg.v)
  row : ∀ d ∈ ds ++ cs, w.ownsRow base 5 1 d.v d.n d.bs ∧ bytesV d.bs
  nodup : (blks (ds ++ cs)).Nodup
  fpp : fp p
  fpl : ∀ k, vl.ownBlock = some k → fp k
  fpc : ∀ k, vc.ownBlock = some k → fp k
  fpd : ∀ d ∈ ds ++ cs, ∀ k, d.v.ownBlock = some k → fp k
  fpb : ∀ k, fp k → base ≤ k ∧ k < w.heap.size
def RefSt (w : World) (base p : Nat) (fp : Nat → Prop) (ds cs : List Dg) : Prop := ∃ vl vc, RefAt w base p fp ds cs vl vc
/-- An air in a world in which its footprint is as it was. -/
theorem RefAt.chg {S : Nat → Prop} {w w' : World} {base p : Nat} {fp : Nat → Prop} {ds cs : List Dg} {vl vc : Value} (h : RefAt w base p fp ds cs vl vc) (hc : Chg S w w') (hs : ∀ k, fp k → ¬ S k) : RefAt w' base p fp ds cs vl vc :=
  ⟨hc.blk h.obj (hs _ h.fpp), own_of_chg h.l hc (fun k hk => hs k (h.fpl k hk)), own_of_chg h.came hc (fun k hk => hs k (h.fpc k hk)),
    fun d hd => ⟨own_of_chg (h.row d hd).1 hc (fun k hk => hs k (h.fpd d hd k hk)), (h.row d hd).2⟩, h.nodup, h.fpp, h.fpl, h.fpc, h.fpd, fun k hk => ⟨(h.fpb k hk).1, Nat.lt_of_lt_of_le (h.fpb k hk).2 hc.size⟩⟩

theorem RefAt.widen {w : World} {base p : Nat} {fp fp' : Nat → Prop} {ds cs : List Dg} {vl vc : Value} (h : RefAt w base p fp ds cs vl vc) (hs : ∀ k, fp k → fp' k) (hb : ∀ k, fp' k → base ≤ k ∧ k < w.heap.size) : RefAt w base p fp' ds cs vl vc :=
  ⟨h.obj, h.l, h.came, h.row, h.nodup, hs _ h.fpp, fun k hk => hs k (h.fpl k hk), fun k hk => hs k (h.fpc k hk), fun d hd k hk => hs k (h.fpd d hd k hk), hb⟩

/-- a.l = append(a.l, d) -/
theorem rpush_l {w : World} {base p : Nat} {fp : Nat → Prop} {ds cs : List Dg} {vl vc : Value} {d : Dg} {R : World → Prop} {E : PanW} (hA : RefAt w base p fp ds cs vl vc) (hd : w.ownsRow base 5 1 d.v d.n d.bs) (hb : bytesV d.bs)
    (hnew : ∀ k, d.v.ownBlock = some k → fp k ∧ k ∉ blks (ds ++ cs)) (hl : ds.length ≤ 1099511627776) (h : ∀ w', RefSt w' base p (grown fp w w') (ds ++ [d]) cs → Chg fp w w' → R w') :
    runV Try.prog (Builtin.append_ #[27, 27] 27 #[vl, .slice (some { block := w.heap.size, off := 0 }) 1 1]) (w.alloc (.cells #[d.v, .bool d.ch] 52))
      (fun v w => ∃ a, ∃ n, ∃ c, v = .slice a n c ∧ setW w ⟨p, 0, none⟩ (.slice a n c) R) E := by
  have hpb := hA.fpb p hA.fpp
  obtain ⟨i, hi, hz, hs, hby⟩ := info_open info52
  have hA2 := hA.chg (chg_alloc w (.cells #[d.v, .bool d.ch] 52) NoS) (fun _ _ x => x)
  obtain ⟨ad, cd, hdv, _, _⟩ := own_form hd
  refine append_own (base := base) (n := ds.length) (m := 1) Try.underlying27 hi hz hs rfl hA2.l (src_slice (news := [d.v, .bool d.ch]) Try.underlying27 rfl ?_ (fun e => by cases e) (by rw [hdv]; simp [Value.oneCell'])) (by rw [hby]; omega) (by omega) (Nat.le_of_lt (Nat.lt_of_le_of_lt hpb.1 (hA2.fpb p hA2.fpp).2)) ?_
  · intro j u hu
    refine ⟨_, rfl, ?_⟩
    rw [addK_lit, cell_blk (blk_alloc w _), Nat.zero_add]
    simpa using hu
  intro v2 w2 ho2 hc2' hb2 _
  obtain ⟨a3, c3, hv2, hc3, _⟩ := own_form ho2
  refine ⟨a3, ds.length + 1, c3, hv2, ?_⟩
  subst hv2
  have hpl : vl.ownBlock ≠ some p := own_ne' hA.l hA.obj (by decide)
  have hobj2 : w2.heap[p]? = some (.cells #[vl, vc] 30 (0, 0)) := hc2'.blk hA2.obj hpl
  refine setW_blk hobj2 (by simp) rfl ?_
  intro w3 hb3 hc3' hs3
  have hcall : Chg fp w w3 := by
    refine (chg_alloc w (.cells #[d.v, .bool d.ch] 52) fp).trans ?_
    exact (hc2'.mono fun k _ hk => hA.fpl k hk).trans (hc3'.mono fun k _ hk => by rw [show k = p from hk]; exact hA.fpp)
  have hfr2 : ∀ k, (Value.slice a3 (ds.length + 1) c3).ownBlock = some k → fp k ∨ (w.heap.size ≤ k ∧ k < w3.heap.size) := by
    intro k hk
    rcases hb2 with e | e
    · exact .inl (hA.fpl k (e ▸ hk))
    · right
      have hlt := own_lt' ho2 hk
      rw [e, size_alloc] at hk
      have := Option.some.inj hk
      rw [hs3]
      exact ⟨by omega, hlt.1⟩
  have hkeep : ∀ {e : TypeId} {size n : Nat} {v : Value} {xs : List Value}, e ≠ 52 → e ≠ 30 → w.ownsRow base e size v n xs → w3.ownsRow base e size v n xs := by
    intro e size n v xs h49 h47 ho
    have h1 := own_of_chg ho (chg_alloc w (.cells #[d.v, .bool d.ch] 52) NoS) (fun _ _ x => x)
    have h2 := own_of_chg h1 hc2' (fun k hk hx => by
      obtain ⟨cs', hc'⟩ := own_typed' hA2.l hx
      exact own_ne' h1 hc' h49 hk)
    exact own_of_chg h2 hc3' (fun k hk hx => by
      have e' : k = p := hx
      subst e'
      exact own_ne' h2 hobj2 h47 hk)
  refine h w3 ⟨.slice a3 (ds.length + 1) c3, vc, by simpa using hb3, ?_, hkeep (by decide) (by decide) hA.came, ?_, nodup_snoc_mid hA.nodup (fun k hk => (hnew k hk).2), .inl hA.fpp, hfr2, fun k hk => .inl (hA.fpc k hk), ?_, ?_⟩ hcall
  · rw [rowOf_snoc, List.length_append]
    exact own_of_chg ho2 hc3' (fun k hk hx => by
      have e : k = p := hx
      subst e
      exact own_ne' ho2 hobj2 (by decide) hk)
  · intro x hx
    rcases mem_snoc_mid.1 hx with h | rfl
    · exact ⟨hkeep (by decide) (by decide) (hA.row x h).1, (hA.row x h).2⟩
    · exact ⟨hkeep (by decide) (by decide) hd, hb⟩
  · intro x hx k hk
    rcases mem_snoc_mid.1 hx with h | rfl
    · exact .inl (hA.fpd x h k hk)
    · exact .inl (hnew k hk).1
  · intro k hk
    have hsz := hcall.size
    rcases hk with hk | hk
    · have := hA.fpb k hk; exact ⟨this.1, by omega⟩
    · exact ⟨by omega, hk.2⟩

/-- a.came = append(a.came, d.b) -/
theorem rpush_c {w : World} {base p : Nat} {fp : Nat → Prop} {ds cs : List Dg} {vl vc : Value} {d : Dg} {R : World → Prop} {E : PanW} (hA : RefAt w base p fp ds cs vl vc) (hd : w.ownsRow base 5 1 d.v d.n d.bs) (hb : bytesV d.bs)
    (hnew : ∀ k, d.v.ownBlock = some k → fp k ∧ k ∉ blks (ds ++ cs)) (hl : cs.length ≤ 1099511627776) (h : ∀ w', RefSt w' base p (grown fp w w') ds (cs ++ [d]) → Chg fp w w' → R w') :
    runV Try.prog (Builtin.append_ #[28, 28] 28 #[vc, .slice (some { block := w.heap.size, off := 0 }) 1 1]) (w.alloc (.cells #[d.v] 31))
      (fun v w => ∃ a, ∃ n, ∃ c, v = .slice a n c ∧ setW w ⟨p, 1, none⟩ (.slice a n c) R) E := by
  have hpb := hA.fpb p hA.fpp
  obtain ⟨i, hi, hz, hs, hby⟩ := info_open info31
  have hA2 := hA.chg (chg_alloc w (.cells #[d.v] 31) NoS) (fun _ _ x => x)
  obtain ⟨ad, cd, hdv, _, _⟩ := own_form hd
  refine append_own (base := base) (n := cs.length) (m := 1) Try.underlying28 hi hz hs rfl hA2.came (src_slice (news := [d.v]) Try.underlying28 rfl ?_ (fun e => by cases e) (by rw [hdv]; simp [Value.oneCell'])) (by rw [hby]; omega) (by omega) (Nat.le_of_lt (Nat.lt_of_le_of_lt hpb.1 (hA2.fpb p hA2.fpp).2)) ?_
  · intro j u hu
    refine ⟨_, rfl, ?_⟩
    rw [addK_lit, cell_blk (blk_alloc w _), Nat.zero_add]
    simpa using hu
  intro v2 w2 ho2 hc2' hb2 _
  obtain ⟨a3, c3, hv2, hc3, _⟩ := own_form ho2
  refine ⟨a3, cs.length + 1, c3, hv2, ?_⟩
  subst hv2
  have hpl : vc.ownBlock ≠ some p := own_ne' hA.came hA.obj (by decide)
  have hobj2 : w2.heap[p]? = some (.cells #[vl, vc] 30 (0, 0)) := hc2'.blk hA2.obj hpl
  refine setW_blk hobj2 (by simp) rfl ?_
  intro w3 hb3 hc3' hs3
  have hcall : Chg fp w w3 := by
    refine (chg_alloc w (.cells #[d.v] 31) fp).trans ?_
    exact (hc2'.mono fun k _ hk => hA.fpc k hk).trans (hc3'.mono fun k _ hk => by rw [show k = p from hk]; exact hA.fpp)
  have hfr2 : ∀ k, (Value.slice a3 (cs.length + 1) c3).ownBlock = some k → fp k ∨ (w.heap.size ≤ k ∧ k < w3.heap.size) := by
    intro k hk
    rcases hb2 with e | e
    · exact .inl (hA.fpc k (e ▸ hk))
    · right
      have hlt := own_lt' ho2 hk
      rw [e, size_alloc] at hk
      have := Option.some.inj hk
      rw [hs3]
      exact ⟨by omega, hlt.1⟩
  have hkeep : ∀ {e : TypeId} {size n : Nat} {v : Value} {xs : List Value}, e ≠ 31 → e ≠ 30 → w.ownsRow base e size v n xs → w3.ownsRow base e size v n xs := by
    intro e size n v xs h49 h47 ho
    have h1 := own_of_chg ho (chg_alloc w (.cells #[d.v] 31) NoS) (fun _ _ x => x)
    have h2 := own_of_chg h1 hc2' (fun k hk hx => by
      obtain ⟨cs', hc'⟩ := own_typed' hA2.came hx
      exact own_ne' h1 hc' h49 hk)
    exact own_of_chg h2 hc3' (fun k hk hx => by
      have e' : k = p := hx
      subst e'
      exact own_ne' h2 hobj2 h47 hk)
  have hmem : ∀ x, x ∈ ds ++ (cs ++ [d]) ↔ x ∈ ds ++ cs ∨ x = d := fun x => by simp [or_assoc]
  refine h w3 ⟨vl, .slice a3 (cs.length + 1) c3, by simpa using hb3, hkeep (by decide) (by decide) hA.l, ?_, ?_, ?_, .inl hA.fpp, fun k hk => .inl (hA.fpl k hk), hfr2, ?_, ?_⟩ hcall
  · rw [List.map_append, List.length_append]
    exact own_of_chg ho2 hc3' (fun k hk hx => by
      have e : k = p := hx
      subst e
      exact own_ne' ho2 hobj2 (by decide) hk)
  · intro x hx
    rcases (hmem x).1 hx with h | rfl
    · exact ⟨hkeep (by decide) (by decide) (hA.row x h).1, (hA.row x h).2⟩
    · exact ⟨hkeep (by decide) (by decide) hd, hb⟩
  · have hp : (blks (ds ++ (cs ++ [d]))).Perm (blks ((ds ++ [d]) ++ cs)) := by
      simp only [blks_append, List.append_assoc]
      exact List.perm_append_comm.append_left _
    rw [hp.nodup_iff]
    exact nodup_snoc_mid hA.nodup (fun k hk => (hnew k hk).2)
  · intro x hx k hk
    rcases (hmem x).1 hx with h | rfl
    · exact .inl (hA.fpd x h k hk)
    · exact .inl (hnew k hk).1
  · intro k hk
    have hsz := hcall.size
    rcases hk with hk | hk
    · have := hA.fpb k hk; exact ⟨this.1, by omega⟩
    · exact ⟨by omega, hk.2⟩

end Go.Proofs.Ytcfagkmkfjhhiaa.B
