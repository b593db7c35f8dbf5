/-
  The document's own air: Do.
-/
import Derived.Test.YtcfagkmkfjhhiaaAirK
set_option linter.unusedVariables false
set_option linter.unusedSimpArgs false
namespace Go.Proofs.Ytcfagkmkfjhhiaa.B
open Go Go.Proofs Go.Proofs.YtcfagkmkfjhhiaaEng

/-- New lists of the same datagrams. -/
theorem RefAt.redo {S : Nat → Prop} {w w' : World} {base p : Nat} {fp fp' : Nat → Prop} {ds cs ds' cs' : List Dg} {vl vc vl' vc' : Value} (hA : RefAt w base p fp ds cs vl vc) (hc : Chg S w w') (hS : ∀ k, S k → k = p ∨ vl.ownBlock = some k ∨ vc.ownBlock = some k ∨ w.heap.size ≤ k)
    (hobj : w'.heap[p]? = some (.cells #[vl', vc'] 30 (0, 0))) (hl : w'.ownsRow base 52 2 vl' ds'.length (rowOf ds')) (hcame : w'.ownsRow base 31 1 vc' cs'.length (cs'.map Dg.v)) (hmem : ∀ d ∈ ds' ++ cs', d ∈ ds ++ cs) (hnd : (blks (ds' ++ cs')).Nodup)
    (hfp : ∀ k, fp k → fp' k) (hfb : ∀ k, fp' k → base ≤ k ∧ k < w'.heap.size) (hfl : ∀ k, vl'.ownBlock = some k → fp' k) (hfc : ∀ k, vc'.ownBlock = some k → fp' k) : RefAt w' base p fp' ds' cs' vl' vc' := by
  refine ⟨hobj, hl, hcame, fun d hd => ?_, hnd, hfp _ hA.fpp, hfl, hfc, fun d hd k hk => hfp _ (hA.fpd d (hmem d hd) k hk), hfb⟩
  have hr := hA.row d (hmem d hd)
  refine ⟨own_of_chg hr.1 hc (fun k hk hs => ?_), hr.2⟩
  rcases hS k hs with h | h | h | h
  · subst h; exact own_ne' hr.1 hA.obj (by decide) hk
  · obtain ⟨c, hcc⟩ := own_typed' hA.l h; exact own_ne' hr.1 hcc (by decide) hk
  · obtain ⟨c, hcc⟩ := own_typed' hA.came h; exact own_ne' hr.1 hcc (by decide) hk
  · have := (own_lt' hr.1 hk).1; omega

theorem Reads.take' {w : World} {a : Option Addr} {xs : List Value} (h : Reads w a xs) (m : Nat) : Reads w a (xs.take m) := fun j u hu => by
  have hj : j < m := by
    rcases Nat.lt_or_ge j m with h | h
    · exact h
    · rw [List.getElem?_eq_none (by simp; omega)] at hu; cases hu
  rw [List.getElem?_take_of_lt hj] at hu
  exact h j u hu
theorem Reads.drop' {w : World} {g o : Nat} {xs : List Value} (h : Reads w (some ⟨g, o, none⟩) xs) (m : Nat) : Reads w (some ⟨g, o + m, none⟩) (xs.drop m) := fun j u hu => by
  rw [List.getElem?_drop] at hu
  obtain ⟨A, hA, hc⟩ := h (m + j) u hu
  cases hA
  refine ⟨_, rfl, ?_⟩
  rw [addK_lit] at hc ⊢
  rw [← hc]
  congr 2
  omega
theorem rowOf_set2 {ds : List Dg} {k : Nat} {x y : Dg} (h : ds[k]? = some x) : ((rowOf ds).set (k * 2) y.v).set (k * 2 + 1) (.bool y.ch) = rowOf (ds.set k y) := by
  induction ds generalizing k with
  | nil => simp at h
  | cons a ds ih =>
    cases k with
    | zero => simp [rowOf]
    | succ k =>
      have := ih (k := k) (by simpa using h)
      simp only [rowOf, List.flatMap_cons, List.set_cons_succ] at this ⊢
      rw [← this]
      simp [Nat.add_mul]

theorem rDo_arg {w : World} (a : Option Addr) (what at_ : Int) (h : 5 ≤ what ∨ at_ < 0) :
    Calls Try.prog 17 #[.pointer a, .int .u8 what, .int .i64 at_] w (endW (fun v w' => v = .int .i64 2 ∧ w' = w) (fun _ _ => False)) := by
  refine F17_calls _ what at_ ?_
  unfold F17
  refine ⟨fun _ _ => False, fun _ _ h => h.elim, ?_⟩
  by_cases h5 : 4 < what
  · rw [if_neg (by simpa using h5)]; exact ⟨rfl, rfl⟩
  · rw [if_pos (by simpa using h5), if_pos (by simp; omega)]; exact ⟨rfl, rfl⟩
theorem rDo_none {w : World} {base p : Nat} {fp : Nat → Prop} {cs : List Dg} (hA : RefSt w base p fp [] cs) (what at_ : Int) (h : what < 5) (ha : 0 ≤ at_) :
    Calls Try.prog 17 #[.pointer (some ⟨p, 0, none⟩), .int .u8 what, .int .i64 at_] w (endW (fun v w' => v = .int .i64 5 ∧ w' = w) (fun _ _ => False)) := by
  obtain ⟨vl, vc, hA⟩ := hA
  refine F17_calls _ what at_ ?_
  unfold F17
  refine ⟨fun _ w' => w' = w, ?_, ?_⟩
  · rintro _ w' rfl _
    obtain ⟨al, cl, hvl, _, _⟩ := own_form hA.l
    refine ⟨al, 0, cl, by rw [addK_lit, cell_blk hA.obj, hvl]; rfl, ?_⟩
    rw [if_pos (by simp)]
    exact ⟨rfl, rfl⟩
  · rw [if_pos (by simp; omega), if_neg (by simp; omega)]
    exact ⟨(), trivial, rfl⟩

theorem rDo_ok {w : World} {base p : Nat} {fp : Nat → Prop} {ds cs : List Dg} (hA : RefSt w base p fp ds cs) (what at_ : Int) (h0 : 0 ≤ what) (h5 : what < 5) (ha : 0 ≤ at_) (hne : 0 < ds.length) (hl : ds.length ≤ 1099511627776) (hl2 : cs.length ≤ 1099511627776) (ha2 : at_ ≤ 9223372036854775807) (hbl : ∀ d ∈ ds, d.n ≤ 1099511627776) :
    Calls Try.prog 17 #[.pointer (some ⟨p, 0, none⟩), .int .u8 what, .int .i64 at_] w (endW (fun v w' => v = .int .i64 0 ∧ ∃ ds' cs', Deed at_ what ds cs ds' cs' ∧ RefSt w' base p (grown fp w w') ds' cs' ∧ Chg fp w w') (fun _ _ => False)) := by
  obtain ⟨vl, vc, hA⟩ := hA
  obtain ⟨htm, hlt⟩ := plc_lt (n := ds.length) ha hne
  generalize hk : plc at_ ds.length = k at *
  obtain ⟨x, hx⟩ : ∃ x, ds[k]? = some x := ⟨_, List.getElem?_eq_getElem hlt⟩
  have hxm : x ∈ ds ++ cs := List.mem_append_left _ (List.mem_of_getElem? hx)
  have hxr := hA.row x hxm
  obtain ⟨ax, cx, hxv, hcx, hax⟩ := own_form hxr.1
  have hpb := hA.fpb p hA.fpp
  have hbase : base ≤ w.heap.size := by omega
  have hxn := hbl x (List.mem_of_getElem? hx)
  have hcell : ∀ {W : World}, RefAt W base p fp ds cs vl vc → ∃ g c1, vl = .slice (some ⟨g, 0, none⟩) ds.length c1 ∧ ds.length ≤ c1 ∧ W.cell? ⟨p, 0, none⟩ = some (.slice (some ⟨g, 0, none⟩) ds.length c1) ∧
      W.cell? ⟨g, k * 2, none⟩ = some x.v ∧ W.cell? ⟨g, k * 2 + 1, none⟩ = some (.bool x.ch) := by
    intro W hW
    have hown := hW.l
    rcases hown.2 with ⟨_, h0⟩ | ⟨g, c, cur, hvl, hbg, hg, hnc, _⟩
    · omega
    · refine ⟨g, c, hvl, hnc, by rw [cell_blk hW.obj, hvl]; rfl, ?_, ?_⟩
      · rw [hvl] at hown
        obtain ⟨A, e, h⟩ := own_cell hown (rowOf_get hx).1
        cases e
        simpa [addK_lit] using h
      · rw [hvl] at hown
        obtain ⟨A, e, h⟩ := own_cell hown (rowOf_get hx).2
        cases e
        simpa [addK_lit] using h
  refine F17_calls _ what at_ ?_
  delta F17
  refine ⟨fun _ w' => w' = w, ?_, ?_⟩
  rotate_left
  · rw [if_pos (by simp; omega), if_neg (by simp; omega)]
    exact ⟨(), trivial, rfl⟩
  intro _ w' hw' _
  subst hw'
  obtain ⟨g, c1, hvl, hc1, hp0, hx0, hx1⟩ := hcell hA
  have e1 : Int.toNat (at_.tmod (ds.length : Int)) = k := by rw [htm]; simp
  refine ⟨some ⟨g, 0, none⟩, ds.length, c1, by rw [addK_lit]; exact hp0, ?_⟩
  rw [if_neg (by simp; intro h; rw [h] at hne; simp at hne)]
  refine ⟨by omega, ?_⟩
  rw [e1, htm]
  refine ⟨some ⟨g, 0, none⟩, ds.length, c1, by rw [addK_lit]; exact hp0, by omega, by omega, ax, x.n, cx, ?_, x.ch, ?_, ?_⟩
  · rw [addK_lit, addK_lit]; simp [hx0, ← hxv]
  · rw [addK_lit, addK_lit]; simp [hx1]
  have hb0 := blk_alloc w' (.cells #[Value.slice none 0 0, Value.bool false] 52)
  simp only [addK_lit, Nat.zero_add, Nat.add_zero]
  refine setW_blk hb0 (by simp) rfl ?_
  intro w1 hb1 hc1' hs1
  refine setW_blk hb1 (by simp) rfl ?_
  intro w2 hb2 hc2' hs2
  have hc02 : Chg NoS w' w2 := by
    have h1 := (chg_alloc w' (.cells #[Value.slice none 0 0, Value.bool false] 52) NoS)
    refine (h1.trans2 hc1' (fun i hi (he : i = _) => by omega)).trans2 hc2' (fun i hi (he : i = _) => by omega)
  have hb2' : w2.heap[w'.heap.size]? = some (.cells #[x.v, .bool x.ch] 52 (0, 0)) := by rw [hb2, hxv]; simp
  have hsz2 : w2.heap.size = w'.heap.size + 1 := by rw [hs2, hs1, size_alloc]
  have hA2 := hA.chg hc02 (fun _ _ x => x)
  have e0 : ∀ {W : World} {v : Value} {cs : Array Value} {t : TypeId} {b j : Nat}, W.heap[b]? = some (.cells cs t (0, 0)) → cs[j]? = some v → W.cell? ⟨b, j, none⟩ = some v := fun hb hj => by rw [cell_blk hb]; simpa using hj
  have hwk : IntKind.wrap .i64 ((k : Int) + 1) = ((k + 1 : Nat) : Int) := by rw [IntWalk.i64_in _ (by omega)]; omega
  simp only [wSome, addK_lit, Nat.add_zero, Nat.zero_add, hwk, Int.toNat_natCast, Nat.sub_zero]
  have hcell2 : ∀ {W : World}, RefAt W base p fp ds cs vl vc → W.cell? ⟨p, 0, none⟩ = some (.slice (some ⟨g, 0, none⟩) ds.length c1) := fun hW => by rw [cell_blk hW.obj, hvl]; rfl
  refine ⟨_, _, _, hcell2 hA2, by omega, by omega, ?_⟩
  obtain ⟨i, hi, hz, hs, hby⟩ := info_open info52
  have hone : ∀ u ∈ rowOf ds, u.oneCell' = true := rowOf_one fun d hd => (hA.row d (List.mem_append_left _ hd)).1
  have hrd : ∀ {W : World}, RefAt W base p fp ds cs vl vc → Reads W (some ⟨g, 0, none⟩) (rowOf ds) := fun hW => by
    have := hW.l
    rw [hvl] at this
    exact own_reads' this
  have es : (if c1 = 0 then some (⟨g, 0, none⟩ : Addr) else Option.map (fun a => addK a 0) (some ⟨g, 0, none⟩)) = some ⟨g, 0, none⟩ := by
    split <;> simp [addK_zero]
  rw [es]
  refine append_own (base := base) (n := 0) (m := k) Try.underlying27 hi hz hs rfl (own_nil' w2 base 52 2) (src_slice (news := (rowOf ds).take (k * 2)) Try.underlying27 (by rw [List.length_take, rowOf_length]; omega) (Reads.take' (hrd hA2) _) (fun e => by cases e) (fun u hu => hone u (List.mem_of_mem_take hu))) (by rw [hby]; omega) (by omega) (by omega) ?_
  intro v3 w3 ho3 hc3' hn3 _
  have hc3 : Chg NoS w2 w3 := hc3'.mono fun k hk hx => by simp [Value.ownBlock] at hx
  have hnb3 : ∀ b, v3.ownBlock = some b → w2.heap.size ≤ b := fun b hb => by
    rcases hn3 with e | e
    · rw [e] at hb; simp [Value.ownBlock] at hb
    · rw [e] at hb; have := Option.some.inj hb; omega
  rw [Nat.zero_add, List.nil_append] at ho3
  obtain ⟨a3, c3, hv3, hc3c, _⟩ := own_form ho3
  refine ⟨a3, k, c3, hv3, ?_⟩
  subst hv3
  have hA3 := hA2.chg hc3 (fun _ _ x => x)
  refine ⟨_, _, _, hcell2 hA3, by omega, by omega, ?_⟩
  have hrs : Reads w3 (if c1 = k + 1 then some (⟨g, 0, none⟩ : Addr) else Option.map (fun a => addK a ((k + 1) * 2)) (some ⟨g, 0, none⟩)) ((rowOf ds).drop ((k + 1) * 2)) := by
    split
    · rename_i e
      rw [List.drop_eq_nil_of_le (by rw [rowOf_length]; omega)]
      exact fun j u hu => by simp at hu
    · simp only [Option.map_some, addK_lit]
      exact Reads.drop' (hrd hA3) _
  refine append_own (base := base) (n := k) (m := ds.length - (k + 1)) Try.underlying27 hi hz hs rfl ho3 (src_slice Try.underlying27 (by rw [List.length_drop, rowOf_length]; omega) hrs (fun e => by split at e <;> cases e) (fun u hu => hone u (List.mem_of_mem_drop hu))) (by rw [hby]; omega) (by omega) (by have := hc3.size; omega) ?_
  intro v4 w4 ho4 hc4' hn4 _
  have hc24 : Chg NoS w2 w4 := hc3.trans2 hc4' fun b hb hx => by have := hnb3 b hx; omega
  have hnb4 : ∀ b, v4.ownBlock = some b → w2.heap.size ≤ b := fun b hb => by
    rcases hn4 with e | e
    · rw [e] at hb; exact hnb3 b hb
    · rw [e] at hb; have := Option.some.inj hb; have := hc3.size; omega
  have hlen : (ds.eraseIdx k).length = ds.length - 1 := by rw [List.length_eraseIdx, if_pos hlt]
  rw [rowOf_erase, show k + (ds.length - (k + 1)) = (ds.eraseIdx k).length from by omega] at ho4
  obtain ⟨a4, c4, hv4, hc4c, _⟩ := own_form ho4
  refine ⟨a4, _, c4, hv4, ?_⟩
  have hb4 := hc24.blk hb2' (fun x => x)
  refine ⟨ax, x.n, cx, by rw [← hxv]; exact e0 hb4 rfl, ?_⟩
  have hA4 := hA2.chg hc24 (fun _ _ x => x)
  refine append_nil (base := base) (bs := x.bs) (by have := hxr.1.1; omega) (by have := own_reads' (hxv ▸ (hA4.row x hxm).1); exact this) ?_ hxr.2.one (by omega) (by have := hc24.size; omega) ?_
  · intro e
    rcases hxr.1.2 with ⟨h1, h2⟩ | ⟨g', c', cur', h1, _⟩
    · exact h2
    · rw [hxv, e] at h1; injection h1 with h1; cases h1
  intro v5 w5 ho5 hc5 hn5
  obtain ⟨a5, c5, hv5, _, hf5⟩ := own_form ho5
  refine ⟨a5, x.n, c5, hv5, ?_⟩
  have hc25 := hc24.trans hc5
  have hA5 := hA2.chg hc25 (fun _ _ x => x)
  have hb5 := hc25.blk hb2' (fun x => x)
  have ho45 : w5.ownsRow base 52 2 v4 (ds.eraseIdx k).length (rowOf (ds.eraseIdx k)) := own_of_chg ho4 hc5 (fun _ _ x => x)
  have hc05 : Chg NoS w' w5 := hc02.trans hc25
  have hG : ∀ {w6 : World}, w'.heap.size ≤ w6.heap.size → ∀ k, grown fp w' w6 k → base ≤ k ∧ k < w6.heap.size := fun hs => fpb_grown hA.fpb hbase hs
  have hsz5 := hc05.size
  have hnb45 : ∀ b, v4.ownBlock = some b → w'.heap.size ≤ b ∧ b < w5.heap.size := fun b hb => by
    have := hnb4 b hb
    have := (own_lt' ho45 hb).1
    omega
  have hperm : (ds ++ cs).Perm (x :: (ds.eraseIdx k ++ cs)) := (perm_erase hx).append_right cs
  have hndx : (blks (x :: (ds.eraseIdx k ++ cs))).Nodup := ((List.Perm.filterMap (fun d : Dg => d.v.ownBlock) hperm).nodup_iff).1 hA.nodup
  have hnde : (blks (ds.eraseIdx k ++ cs)).Nodup := by
    have h1 : blks (x :: (ds.eraseIdx k ++ cs)) = blks [x] ++ blks (ds.eraseIdx k ++ cs) := by rw [← blks_append]; rfl
    rw [h1] at hndx
    exact (List.nodup_append.1 hndx).2.1
  have hmem : ∀ d ∈ ds.eraseIdx k ++ cs, d ∈ ds ++ cs := fun d hd => hperm.mem_iff.2 (List.mem_cons_of_mem _ hd)
  by_cases q1 : what = 1
  · subst q1
    rw [if_neg (by simp), if_pos (by simp)]
    refine setW_blk hA5.obj (by simp) rfl ?_
    intro w6 hb6 hc6 hs6
    rw [← hv4] at hb6
    have hb6' : w6.heap[p]? = some (.cells #[v4, vc] 30 (0, 0)) := by rw [hb6]; simp
    have hk6 : ∀ {e : TypeId} {size n : Nat} {v : Value} {xs : List Value}, e ≠ 30 → w5.ownsRow base e size v n xs → w6.ownsRow base e size v n xs := fun he ho =>
      own_of_chg ho hc6 (fun k hk (hx : k = p) => by subst hx; exact own_ne' ho hA5.obj he hk)
    refine ⟨trivial, _, _, .lose ds cs x (by rw [hk]; exact hx), ⟨v4, vc, ?_⟩, (hc05.mono (T := fp) (fun _ _ x => x.elim)).trans2 hc6 (fun k _ (hx : k = p) => by rw [hx]; exact hA.fpp)⟩
    rw [hk]
    refine hA5.redo hc6 (fun k (h : k = p) => .inl h) hb6' (hk6 (by decide) ho45) (hk6 (by decide) hA5.came) hmem hnde (fun k h => .inl h) (hG (by omega)) (fun b hb => .inr ?_) (fun b hb => .inl (hA.fpc b hb))
    have := hnb45 b hb
    omega
  by_cases q0 : what = 0
  · subst q0
    rw [if_pos (by simp)]
    obtain ⟨ac, cc, hvc, _, _⟩ := own_form hA5.came
    obtain ⟨i1, hi1, hz1, hs1', hby1⟩ := info_open info31
    refine ⟨ac, cs.length, cc, by rw [← hvc]; exact e0 (by rw [heap_drew]; exact hA5.obj) rfl, ax, x.n, cx, by rw [← hxv]; exact e0 (by rw [heap_drew]; exact hb5) rfl, (chg_alloc _ _ NoS).sameOld, ?_⟩
    rw [← hvc, ← hxv]
    have hcda : Chg NoS w5 (w5.drew.alloc (.cells #[x.v] 31)) := (chg_drew w5 NoS).trans (chg_alloc _ _ NoS)
    have hA5a := hA5.chg hcda (fun _ _ x => x)
    have hsza : (w5.drew.alloc (.cells #[x.v] 31)).heap.size = w5.heap.size + 1 := by rw [size_alloc, size_drew]
    refine append_own (base := base) (n := cs.length) (m := 1) Try.underlying28 hi1 hz1 hs1' rfl hA5a.came (src_slice (news := [x.v]) Try.underlying28 rfl ?_ (fun e => by cases e) (by rw [hxv]; simp [Value.oneCell'])) (by rw [hby1]; omega) (by omega) (by omega) ?_
    · intro j u hu
      refine ⟨_, rfl, ?_⟩
      rw [addK_lit, cell_blk (blk_alloc w5.drew _), Nat.zero_add]
      simpa using hu
    intro v6 w6 ho6 hc6 hn6 _
    obtain ⟨a6, c6, hv6, _, _⟩ := own_form ho6
    refine ⟨a6, _, c6, hv6, ?_⟩
    have hpl6 : w6.heap[p]? = some (.cells #[vl, vc] 30 (0, 0)) := hc6.blk hA5a.obj (fun h => own_ne' hA5a.came hA5a.obj (by decide) h)
    refine setW_blk hpl6 (by simp) rfl ?_
    intro w7 hb7 hc7 hs7
    rw [← hv6] at hb7
    have hb7' : w7.heap[p]? = some (.cells #[vl, v6] 30 (0, 0)) := by rw [hb7]; simp
    refine setW_blk hb7' (by simp) rfl ?_
    intro w8 hb8 hc8 hs8
    rw [← hv4] at hb8
    have hb8' : w8.heap[p]? = some (.cells #[v4, v6] 30 (0, 0)) := by rw [hb8]; simp
    let S8 : Nat → Prop := fun k => k = p ∨ vc.ownBlock = some k
    have hc58 : Chg S8 w5 w8 := ((hcda.mono (fun _ _ x => x.elim)).trans (hc6.mono fun k _ h => .inr h)).trans ((hc7.mono fun k _ (h : k = p) => .inl h).trans (hc8.mono fun k _ (h : k = p) => .inl h))
    have hs6 := hc6.size
    have h68 : ∀ {e : TypeId} {size n : Nat} {v : Value} {xs : List Value}, e ≠ 30 → w6.ownsRow base e size v n xs → w8.ownsRow base e size v n xs := fun he ho => by
      have h7 := own_of_chg ho hc7 (fun k hk hx => own_ne' ho hpl6 he (by rw [hk, show k = p from hx]))
      exact own_of_chg h7 hc8 (fun k hk hx => own_ne' h7 hb7' he (by rw [hk, show k = p from hx]))
    have ho46 : w6.ownsRow base 52 2 v4 (ds.eraseIdx k).length (rowOf (ds.eraseIdx k)) := by
      have h1 : (w5.drew.alloc (.cells #[x.v] 31)).ownsRow base 52 2 v4 (ds.eraseIdx k).length (rowOf (ds.eraseIdx k)) := own_of_chg ho45 hcda (fun _ _ x => x)
      exact own_of_chg h1 hc6 (fun b hb hx => by obtain ⟨c', hcc⟩ := own_typed' hA5a.came hx; exact own_ne' h1 hcc (by decide) hb)
    have hndb : (blks (ds.eraseIdx k ++ (cs ++ [x]))).Nodup := by
      have hp2 : (ds.eraseIdx k ++ (cs ++ [x])).Perm (x :: (ds.eraseIdx k ++ cs)) := by
        rw [← List.append_assoc]
        exact List.perm_append_comm.trans (by simp)
      exact ((List.Perm.filterMap (fun d : Dg => d.v.ownBlock) hp2).nodup_iff).2 hndx
    refine ⟨trivial, _, _, .bring ds cs x (by rw [hk]; exact hx), ⟨v4, v6, ?_⟩, (hc05.mono (T := fp) (fun _ _ x => x.elim)).trans2 hc58 (fun k _ hx => ?_)⟩
    · rw [hk]
      refine hA5.redo hc58 (fun k h => h.imp (fun x => x) (fun h => .inr (.inl h))) hb8' (h68 (by decide) ho46) (h68 (by decide) (by simpa using ho6)) (fun d hd => ?_) hndb (fun k h => .inl h) (hG (by omega)) (fun b hb => .inr ?_) (fun b hb => ?_)
      · rcases List.mem_append.1 hd with hd | hd
        · exact hmem d (List.mem_append_left _ hd)
        · rcases List.mem_append.1 hd with hd | hd
          · exact List.mem_append_right _ hd
          · rw [List.mem_singleton.1 hd]; exact hxm
      · have := hnb45 b hb
        omega
      · have hlt6 := (own_lt' ho6 hb).1
        rcases hn6 with e | e
        · rw [e] at hb; exact .inl (hA.fpc b hb)
        · rw [e] at hb
          have := Option.some.inj hb
          exact .inr ⟨by omega, by omega⟩
    · rcases hx with hx | hx
      · rw [hx]; exact hA.fpp
      · exact hA.fpc k hx
  by_cases q2 : what = 2
  · subst q2
    rw [if_neg (by simp), if_neg (by simp), if_pos (by simp)]
    subst hv5
    have hA5d := (hA5.chg (chg_drew w5 NoS) (fun _ _ x => x)).widen (fp' := grown fp w' w5) (fun k hk => .inl hk) (hG hsz5)
    have ho5d : w5.drew.ownsRow base 5 1 (.slice a5 x.n c5) x.n x.bs := own_of_chg ho5 (chg_drew w5 NoS) (fun _ _ x => x)
    refine ⟨_, _, _, by have := hcell2 (hA5.chg (chg_drew w5 NoS) (fun _ _ x => x)); exact this, x.ch, e0 (by rw [heap_drew]; exact hb5) rfl, (chg_alloc _ _ NoS).sameOld, ?_⟩
    rw [← hvl]
    have hs24 := hc24.size
    have hnb : ∀ b, (Value.slice a5 x.n c5).ownBlock = some b → w'.heap.size ≤ b ∧ b < w5.heap.size := fun b hb => by
      have := hn5 b hb; have := (own_lt' ho5 hb).1; omega
    refine rpush_l (d := ⟨.slice a5 x.n c5, x.n, x.bs, x.ch⟩) hA5d ho5d hxr.2 (fun b hb => ⟨.inr (hnb b hb), fun hm => ?_⟩) hl ?_
    · obtain ⟨d, hd, hdk⟩ := mem_blks.1 hm
      have := hA.fpb b (hA.fpd d hd b hdk)
      have := hnb b hb
      omega
    intro w6 hA6 hc6
    have hs6 := hc6.size
    rw [size_drew] at hs6
    obtain ⟨vl6, vc6, hA6⟩ := hA6
    refine ⟨trivial, _, _, .double ds cs x ⟨.slice a5 x.n c5, x.n, x.bs, x.ch⟩ (by rw [hk]; exact hx) ⟨rfl, rfl, rfl⟩, ⟨vl6, vc6, hA6.widen (fun b hb => ?_) (hG (by omega))⟩, (hc05.mono (T := fp) (fun _ _ x => x.elim)).trans2 ((chg_drew w5 _).trans hc6) (fun b hb hx => ?_)⟩
    · rcases hb with (hb | hb) | hb
      · exact .inl hb
      · exact .inr ⟨hb.1, by omega⟩
      · exact .inr ⟨by have := hb.1; rw [size_drew] at this; omega, hb.2⟩
    · rcases hx with hx | hx
      · exact hx
      · omega
  by_cases q4 : what = 4
  · subst q4
    rw [if_neg (by simp), if_neg (by simp), if_neg (by simp), if_neg (by simp), if_pos (by simp)]
    refine ⟨ax, x.n, cx, by rw [← hxv]; exact e0 hb5 rfl, x.ch, e0 hb5 rfl, ?_⟩
    rw [← hv4, ← hxv]
    have hcda : Chg NoS w5 (w5.alloc (.cells #[x.v, .bool x.ch] 52)) := chg_alloc _ _ NoS
    have hA5a := hA5.chg hcda (fun _ _ x => x)
    have ho4a : (w5.alloc (.cells #[x.v, .bool x.ch] 52)).ownsRow base 52 2 v4 (ds.eraseIdx k).length (rowOf (ds.eraseIdx k)) := own_of_chg ho45 hcda (fun _ _ x => x)
    have hsza : (w5.alloc (.cells #[x.v, .bool x.ch] 52)).heap.size = w5.heap.size + 1 := size_alloc _ _
    refine append_own (base := base) (n := (ds.eraseIdx k).length) (m := 1) Try.underlying27 hi hz hs rfl ho4a (src_slice (news := [x.v, .bool x.ch]) Try.underlying27 rfl ?_ (fun e => by cases e) (by rw [hxv]; simp [Value.oneCell'])) (by rw [hby]; omega) (by omega) (by omega) ?_
    · intro j u hu
      refine ⟨_, rfl, ?_⟩
      rw [addK_lit, cell_blk (blk_alloc w5 _), Nat.zero_add]
      simpa using hu
    intro v6 w6 ho6 hc6 hn6 _
    obtain ⟨a6, c6, hv6, _, _⟩ := own_form ho6
    refine ⟨a6, _, c6, hv6, ?_⟩
    have hpl6 : w6.heap[p]? = some (.cells #[vl, vc] 30 (0, 0)) := hc6.blk hA5a.obj (fun h => own_ne' ho4a hA5a.obj (by decide) h)
    refine setW_blk hpl6 (by simp) rfl ?_
    intro w7 hb7 hc7 hs7
    rw [← hv6] at hb7
    have hb7' : w7.heap[p]? = some (.cells #[v6, vc] 30 (0, 0)) := by rw [hb7]; simp
    have hs6 := hc6.size
    have hcda6 : Chg (fun b => v4.ownBlock = some b) w5 w6 := (hcda.mono (fun _ _ x => x.elim)).trans hc6
    have hc56 : Chg fp w' w6 := (hc05.mono (T := fp) (fun _ _ x => x.elim)).trans2 hcda6 (fun b hb hx => by have := hnb45 b hx; omega)
    have hc57 : Chg (fun b => b = p ∨ v4.ownBlock = some b) w5 w7 := (hcda6.mono (fun _ _ h => .inr h)).trans (hc7.mono fun b _ h => .inl h)
    have hmove : ∀ {e : TypeId} {size n : Nat} {v : Value} {xs : List Value}, e ≠ 30 → e ≠ 52 → w5.ownsRow base e size v n xs → w7.ownsRow base e size v n xs := fun he he2 ho => by
      obtain h6 := own_of_chg ho hcda6 (fun b hb hx => by obtain ⟨c', hcc⟩ := own_typed' ho45 hx; exact own_ne' ho hcc he2 hb)
      exact own_of_chg h6 hc7 (fun b hb hx => own_ne' h6 hpl6 he (by rw [hb, show b = p from hx]))
    have hndb : (blks (ds.eraseIdx k ++ [x] ++ cs)).Nodup := by
      have hp2 : (ds.eraseIdx k ++ [x] ++ cs).Perm (x :: (ds.eraseIdx k ++ cs)) := by
        rw [List.append_assoc]
        exact List.perm_middle
      exact ((List.Perm.filterMap (fun d : Dg => d.v.ownBlock) hp2).nodup_iff).2 hndx
    have hmem' : ∀ d ∈ ds.eraseIdx k ++ [x] ++ cs, d ∈ ds ++ cs := fun d hd => by
      rcases List.mem_append.1 hd with hd | hd
      · rcases List.mem_append.1 hd with hd | hd
        · exact hmem d (List.mem_append_left _ hd)
        · rw [List.mem_singleton.1 hd]; exact hxm
      · exact List.mem_append_right _ hd
    refine ⟨trivial, _, _, .delay ds cs x (by rw [hk]; exact hx), ⟨v6, vc, ?_⟩, hc56.trans (hc7.mono fun b _ (h : b = p) => by rw [h]; exact hA.fpp)⟩
    rw [hk]
    have ho67 : w7.ownsRow base 52 2 v6 (ds.eraseIdx k ++ [x]).length (rowOf (ds.eraseIdx k ++ [x])) := by
      rw [rowOf_snoc, List.length_append]
      exact own_of_chg ho6 hc7 (fun b hb hx => own_ne' ho6 hpl6 (by decide) (by rw [hb, show b = p from hx]))
    refine ⟨hb7', ho67, hmove (by decide) (by decide) hA5.came, fun d hd => ⟨hmove (by decide) (by decide) (hA5.row d (hmem' d hd)).1, (hA5.row d (hmem' d hd)).2⟩, hndb, .inl hA.fpp, fun b hb => .inr ?_, fun b hb => .inl (hA.fpc b hb), fun d hd b hb => .inl (hA.fpd d (hmem' d hd) b hb), hG (by omega)⟩
    have hlt6 := (own_lt' ho6 hb).1
    rcases hn6 with e | e
    · rw [e] at hb; have := hnb45 b hb; omega
    · rw [e] at hb
      have := Option.some.inj hb
      omega
  have q3 : what = 3 := by omega
  subst q3
  rw [if_neg (by simp), if_neg (by simp), if_neg (by simp), if_pos (by simp)]
  have hw5 : RefSt w5 base p (grown fp w' w5) ds cs := ⟨vl, vc, hA5.widen (fun k hk => .inl hk) (hG hsz5)⟩
  have hcf5 : Chg fp w' w5 := hc05.mono (fun _ _ x => x.elim)
  refine ⟨x.ch, e0 hb5 rfl, ?_⟩
  by_cases hch : x.ch = true
  · rw [if_neg (by simp [hch])]
    exact ⟨trivial, _, _, .same ds cs x (by rw [hk]; exact hx) (.inl hch), hw5, hcf5⟩
  rw [if_pos (by simpa using hch)]
  by_cases hxn0 : x.n = 0
  · rw [if_neg (by simp [hxn0])]
    exact ⟨trivial, _, _, .same ds cs x (by rw [hk]; exact hx) (.inr hxn0), hw5, hcf5⟩
  rw [if_pos (by simp; omega)]
  have htd0 : 0 ≤ at_.tdiv ds.length := Int.tdiv_nonneg ha (by omega)
  have htd1 : at_.tdiv ds.length ≤ at_ := Int.tdiv_le_self _ ha
  have hwr : IntKind.wrap .i64 (at_.tdiv (ds.length : Int)) = at_.tdiv (ds.length : Int) := IntWalk.i64_in _ (by omega)
  obtain ⟨htm2, hlt2⟩ := plc_lt (at_ := at_.tdiv ds.length) (n := x.n) htd0 (by omega)
  generalize hj : plc (at_.tdiv ds.length) x.n = j at *
  have hjl : j < x.bs.length := by have := hxr.1.1; omega
  obtain ⟨b, hb⟩ := hxr.2 _ (List.getElem_mem hjl)
  have hbj : x.bs[j]? = some (.int .u8 b.toNat) := by rw [List.getElem?_eq_getElem hjl, hb]
  subst hv5
  obtain ⟨A5, rfl, hcj⟩ := own_cell ho5 hbj
  obtain ⟨g5, rfl⟩ := hf5 _ rfl
  rw [addK_lit, Nat.zero_add] at hcj
  have hg5 : w'.heap.size ≤ g5 ∧ g5 < w5.heap.size := by
    have := hn5 g5 (by simp [Value.ownBlock])
    have := (own_lt' ho5 (k := g5) (by simp [Value.ownBlock])).1
    have := hc24.size
    omega
  rw [hwr, htm2]
  refine ⟨by omega, by omega, by omega, by omega, b.toNat, ?_, by omega, by omega, ?_⟩
  · rw [addK_lit]; simpa using hcj
  simp only [addK_lit, xor_u8]
  have ej : (0 + (j : Int).toNat * 1) = j := by omega
  rw [ej]
  refine setW_own ho5 (by omega) rfl ?_
  intro w6 ho6 hc6 hs6
  have hA6 := hA5.chg hc6 (fun b hb (hx : b = g5) => by have := hA.fpb b hb; omega)
  have hl6 := hA6.l
  rw [hvl] at hl6
  refine ⟨_, _, _, hcell2 hA6, by omega, by omega, ?_⟩
  simp only [addK_lit, Nat.zero_add, Nat.add_zero]
  refine setW_own hl6 (by omega) rfl ?_
  intro w7 hl7 hc7 hs7
  refine setW_own hl7 (by omega) rfl ?_
  intro w8 hl8 hc8 hs8
  have hfg : fp g := hA.fpl g (by rw [hvl]; rfl)
  have hgp : p ≠ g := fun e => by
    have h1 := hA.l
    rw [hvl] at h1
    exact own_ne' h1 hA.obj (by decide) (by rw [e]; rfl)
  let y : Dg := ⟨.slice (some ⟨g5, 0, none⟩) x.n c5, x.n, x.bs.set j (.int .u8 (b ^^^ 0x5a).toNat), true⟩
  have hc68 : Chg (OnlyB g) w6 w8 := hc7.trans hc8
  have hkeep : ∀ {e : TypeId} {size n : Nat} {v : Value} {xs : List Value}, e ≠ 52 → w6.ownsRow base e size v n xs → w8.ownsRow base e size v n xs := fun he ho => by
    obtain ⟨c', hcc⟩ := own_typed' hl6 (k := g) rfl
    exact own_of_chg ho hc68 (fun q hq hx => own_ne' ho hcc he (by rw [hq, show q = g from hx]))
  have hndy : ∀ d ∈ ds.set k y ++ cs, d = y ∨ d ∈ ds ++ cs := fun d hd => by
    rcases List.mem_append.1 hd with hd | hd
    · rcases mem_set_of hd with hd | hd
      · exact .inr (List.mem_append_left _ hd)
      · exact .inl hd
    · exact .inr (List.mem_append_right _ hd)
  have hcf8 : Chg fp w' w8 := (hcf5.trans2 hc6 (fun q hq (hx : q = g5) => by omega)).trans (hc68.mono fun q _ (hx : q = g) => by rw [hx]; exact hfg)
  refine ⟨trivial, _, _, .change ds cs x y b (by rw [hk]; exact hx) ⟨by simpa using hch, hxn0⟩ (by rw [hj]; exact hbj) ⟨rfl, rfl, by rw [hj]⟩, ⟨vl, vc, hc68.blk hA6.obj (fun e => hgp e), ?_, hkeep (by decide) hA6.came, ?_, ?_, .inl hA.fpp, fun q hq => .inl (hA.fpl q hq), fun q hq => .inl (hA.fpc q hq), ?_, hG hcf8.size⟩, hcf8⟩
  · rw [List.length_set, hk, ← rowOf_set2 hx (y := y), hvl]; exact hl8
  · intro d hd
    rw [hk] at hd
    rcases hndy d hd with rfl | hd
    · refine ⟨hkeep (by decide) ho6, fun u hu => ?_⟩
      rcases mem_set_of hu with h | rfl
      · exact hxr.2 u h
      · exact ⟨_, rfl⟩
    · exact ⟨hkeep (by decide) (hA6.row d hd).1, (hA.row d hd).2⟩
  · rw [hk]
    have hperm2 : (ds.set k y ++ cs).Perm (y :: (ds.eraseIdx k ++ cs)) := by
      have h1 : (ds.set k y)[k]? = some y := by simp [hlt]
      have h2 := perm_erase h1
      have h3 : (ds.set k y).eraseIdx k = ds.eraseIdx k := by rw [List.eraseIdx_set_eq]
      rw [h3] at h2
      exact h2.append_right cs
    refine ((List.Perm.filterMap (fun d : Dg => d.v.ownBlock) hperm2).nodup_iff).2 ?_
    rw [List.filterMap_cons, show y.v.ownBlock = some g5 from rfl]
    refine List.nodup_cons.2 ⟨fun hm => ?_, hnde⟩
    obtain ⟨d, hd, hdk⟩ := mem_blks.1 (show g5 ∈ blks (ds.eraseIdx k ++ cs) from hm)
    have := hA.fpb g5 (hA.fpd d (hmem d hd) g5 hdk)
    omega
  · intro d hd q hq
    rw [hk] at hd
    rcases hndy d hd with rfl | hd
    · have e : g5 = q := by simpa [y, Value.ownBlock] using hq
      subst e
      exact .inr ⟨hg5.1, by have := hc6.size; have := hc68.size; omega⟩
    · exact .inl (hA.fpd d hd q hq)
end Go.Proofs.Ytcfagkmkfjhhiaa.B
