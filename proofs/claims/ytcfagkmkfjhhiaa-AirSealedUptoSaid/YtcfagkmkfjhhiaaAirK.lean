/-
  The document's own air: Put and Came.
-/
import Derived.Test.YtcfagkmkfjhhiaaAirJ
set_option linter.unusedVariables false
set_option linter.unusedSimpArgs false
namespace Go.Proofs.Ytcfagkmkfjhhiaa.B
open Go Go.Proofs Go.Proofs.YtcfagkmkfjhhiaaEng

/-- append of what is read to nil -/
theorem append_nil {w : World} {base n c : Nat} {a : Option Addr} {bs : List Value} {K : Value → World → Prop} {E : PanW} (hn : bs.length = n) (hr : Reads w a bs) (h0 : a = none → n = 0) (h1 : ∀ u ∈ bs, u.oneCell' = true) (hb : n ≤ 140737488355328) (hbase : base ≤ w.heap.size)
    (h : ∀ v' w', w'.ownsRow base 5 1 v' n bs → Chg NoS w w' → (∀ k, v'.ownBlock = some k → w.heap.size ≤ k) → K v' w') :
    runV Try.prog (Builtin.append_ #[31, 31] 31 #[Value.slice none 0 0, Value.slice a n c]) w K E := by
  obtain ⟨i, hi, hz, hs, hby⟩ := info_open info5
  refine append_own (base := base) (n := 0) (m := n) Try.underlying31 hi hz hs rfl (own_nil' w base 5 1) (src_slice Try.underlying31 (by simpa using hn) hr h0 h1) (by rw [hby]; omega) (by omega) hbase ?_
  intro v' w' ho hc hb1 hb2
  refine h v' w' (by simpa using ho) (hc.mono fun k hk hx => by simp [Value.ownBlock] at hx) fun k hk => ?_
  rcases hb1 with e | e
  · rw [e] at hk; simp [Value.ownBlock] at hk
  · rw [e] at hk; have := Option.some.inj hk; omega

theorem rPut_ok {w : World} {base p n c : Nat} {fp : Nat → Prop} {ds cs : List Dg} {a : Option Addr} {bs : List Value} (hA : RefSt w base p fp ds cs) (hn : bs.length = n) (hr : Reads w a bs) (h0 : a = none → n = 0) (hb : bytesV bs) (hl : n ≤ 1099511627776) (hl2 : ds.length ≤ 1099511627776) :
    Calls Try.prog 12 #[.pointer (some ⟨p, 0, none⟩), .slice a n c] w (endW (fun v w' => v = .tuple #[] ∧ ∃ d : Dg, d.n = n ∧ d.bs = bs ∧ d.ch = false ∧ RefSt w' base p (grown fp w w') (ds ++ [d]) cs ∧ Chg fp w w') (fun _ _ => False)) := by
  obtain ⟨vl, vc, hA⟩ := hA
  refine F12_calls _ a n c ?_
  unfold F12
  obtain ⟨a1, c1, hvl, hc1, _⟩ := own_form hA.l
  have hpb := hA.fpb p hA.fpp
  refine ⟨a1, ds.length, c1, by rw [addK_zero, cell_blk (w := w.drew) (by rw [heap_drew]; exact hA.obj), ← hvl]; rfl, ?_⟩
  refine append_nil (base := base) hn (hr.chg (chg_drew w NoS) (fun _ _ x => x)) h0 hb.one (by omega) (by rw [size_drew]; omega) ?_
  intro v1 w1 ho1 hc1' hb1
  have hc01 : Chg NoS w w1 := (chg_drew w NoS).trans hc1'
  obtain ⟨a2, c2, hv1, hc2, _⟩ := own_form ho1
  refine ⟨a2, n, c2, hv1, hc1'.sameOld, (hc1'.trans (chg_alloc _ _ NoS)).sameOld, ?_⟩
  subst hv1
  have hw1 : ∀ k, (Value.slice a2 n c2).ownBlock = some k → w.heap.size ≤ k ∧ k < w1.heap.size := fun k hk => ⟨hb1 k hk, (own_lt' ho1 hk).1⟩
  have hA1 := (hA.chg hc01 (fun _ _ x => x)).widen (fp' := grown fp w w1) (fun k hk => .inl hk) (fun k hk => by
    have hsz := hc01.size
    rcases hk with hk | hk
    · have := hA.fpb k hk; exact ⟨this.1, by omega⟩
    · exact ⟨by omega, hk.2⟩)
  rw [← hvl]
  refine rpush_l (d := ⟨.slice a2 n c2, n, bs, false⟩) hA1 ho1 hb (fun k hk => ⟨.inr (hw1 k hk), fun hm => ?_⟩) hl2 ?_
  · obtain ⟨d, hd, hdk⟩ := mem_blks.1 hm
    have := hA.fpb k (hA.fpd d hd k hdk)
    have := hw1 k hk
    omega
  intro w3 hA3 hc3
  refine ⟨rfl, ⟨.slice a2 n c2, n, bs, false⟩, rfl, rfl, rfl, ?_, ?_⟩
  · obtain ⟨vl', vc', hA3⟩ := hA3
    refine ⟨vl', vc', hA3.widen (fun k hk => ?_) (fun k hk => ?_)⟩
    · have h1 := hc01.size
      have h2 := hc3.size
      rcases hk with (hk | hk) | hk
      · exact .inl hk
      · exact .inr ⟨hk.1, by omega⟩
      · exact .inr ⟨by omega, hk.2⟩
    · have h1 := hc01.size
      have h2 := hc3.size
      rcases hk with hk | hk
      · have := hA.fpb k hk; exact ⟨this.1, by omega⟩
      · exact ⟨by omega, hk.2⟩
  · refine (hc01.mono (T := fp) (fun _ _ x => x.elim)).trans2 hc3 fun k hk hx => ?_
    rcases hx with hx | hx
    · exact hx
    · omega
theorem rCame_ok {w : World} {base p : Nat} {fp : Nat → Prop} {ds cs : List Dg} (hA : RefSt w base p fp ds cs) :
    Calls Try.prog 15 #[.pointer (some ⟨p, 0, none⟩)] w (endW (fun v w' => ∃ a, (∃ c, v = .slice a cs.length c) ∧ (∃ vc c, vc = .slice a cs.length c ∧ w'.ownsRow base 31 1 vc cs.length (cs.map Dg.v)) ∧ (∀ d ∈ cs, w'.ownsRow base 5 1 d.v d.n d.bs ∧ bytesV d.bs) ∧ (blks cs).Nodup ∧
      ∃ fp' : Nat → Prop, RefSt w' base p fp' ds [] ∧ (∀ k, fp' k → fp k) ∧ (∀ k, a.map (·.block) = some k → fp k ∧ ¬ fp' k) ∧ (∀ k ∈ blks cs, fp k ∧ ¬ fp' k) ∧ Chg fp w w' ∧ w'.heap.size = w.heap.size) (fun _ _ => False)) := by
  obtain ⟨vl, vc, hA⟩ := hA
  refine F15_calls _ ?_
  unfold F15
  obtain ⟨a1, c1, hvc, hc1, _⟩ := own_form hA.came
  refine ⟨a1, cs.length, c1, ?_, ?_⟩
  · rw [addK_lit, cell_blk hA.obj, ← hvc]; rfl
  show setW w (addK ⟨p, 0, none⟩ 1) _ _
  rw [addK_lit]
  refine setW_blk hA.obj (by simp) rfl ?_
  intro w2 hb2 hc2 hs2
  have hkeep : ∀ {e : TypeId} {size n : Nat} {v : Value} {xs : List Value}, e ≠ 30 → w.ownsRow base e size v n xs → w2.ownsRow base e size v n xs := fun he ho =>
    own_of_chg ho hc2 (fun k hk hx => by
      have e' : k = p := hx
      subst e'
      exact own_ne' ho hA.obj he hk)
  refine ⟨a1, ⟨c1, rfl⟩, ⟨vc, c1, hvc, hkeep (by decide) hA.came⟩, fun d hd => ⟨hkeep (by decide) (hA.row d (List.mem_append_right _ hd)).1, (hA.row d (List.mem_append_right _ hd)).2⟩, ?_, fun k => fp k ∧ k ∉ blks cs ∧ vc.ownBlock ≠ some k, ⟨vl, .slice none 0 0, ?_⟩, fun k h => h.1, ?_, ?_, hc2.mono fun k _ hk => by rw [show k = p from hk]; exact hA.fpp, hs2⟩
  · have := hA.nodup; rw [blks_append] at this; exact (List.nodup_append.1 this).2.1
  · have hnd := hA.nodup
    rw [blks_append] at hnd
    have hdis := (List.nodup_append.1 hnd).2.2
    refine ⟨by simpa using hb2, hkeep (by decide) hA.l, own_nil' _ _ _ _, ?_, ?_, ?_, ?_, fun k hk => by simp [Value.ownBlock] at hk, ?_, ?_⟩
    · intro d hd
      rw [List.append_nil] at hd
      exact ⟨hkeep (by decide) (hA.row d (List.mem_append_left _ hd)).1, (hA.row d (List.mem_append_left _ hd)).2⟩
    · rw [List.append_nil]; exact (List.nodup_append.1 hnd).1
    · refine ⟨hA.fpp, fun hm => ?_, own_ne' hA.came hA.obj (by decide)⟩
      obtain ⟨d, hd, hdk⟩ := mem_blks.1 hm
      exact own_ne' (hA.row d (List.mem_append_right _ hd)).1 hA.obj (by decide) hdk
    · intro k hk
      obtain ⟨cs', hc'⟩ := own_typed' hA.l hk
      refine ⟨hA.fpl k hk, fun hm => ?_, own_ne' hA.came hc' (by decide)⟩
      obtain ⟨d, hd, hdk⟩ := mem_blks.1 hm
      exact own_ne' (hA.row d (List.mem_append_right _ hd)).1 hc' (by decide) hdk
    · intro d hd k hk
      rw [List.append_nil] at hd
      obtain ⟨cs', hc'⟩ := own_typed' (hA.row d (List.mem_append_left _ hd)).1 hk
      refine ⟨hA.fpd d (List.mem_append_left _ hd) k hk, fun hm => hdis k (mem_blks.2 ⟨d, hd, hk⟩) k hm rfl, own_ne' hA.came hc' (by decide)⟩
    · intro k hk
      have := hA.fpb k hk.1
      exact ⟨this.1, by omega⟩
  · intro k hk
    have hk' : vc.ownBlock = some k := by
      rw [hvc]
      cases a1 with
      | none => simp at hk
      | some A => simpa [Value.ownBlock] using hk
    exact ⟨hA.fpc k hk', fun h => h.2.2 hk'⟩
  · intro k hk
    obtain ⟨d, hd, hdk⟩ := mem_blks.1 hk
    exact ⟨hA.fpd d (List.mem_append_right _ hd) k hdk, fun h => h.2.1 hk⟩

end Go.Proofs.Ytcfagkmkfjhhiaa.B
