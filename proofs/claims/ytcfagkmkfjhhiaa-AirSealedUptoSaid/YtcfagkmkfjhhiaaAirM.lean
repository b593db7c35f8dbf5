/-
  Two airs side by side.
-/
import Derived.Test.YtcfagkmkfjhhiaaAirL
set_option linter.unusedVariables false
set_option linter.unusedSimpArgs false
namespace Go.Proofs.Ytcfagkmkfjhhiaa.B
open Go Go.Proofs Go.Proofs.YtcfagkmkfjhhiaaEng

/-- what of a datagram is seen -/
def vw (d : Dg) : Nat × List Value × Bool := (d.n, d.bs, d.ch)
theorem view_get {ds es : List Dg} (h : ds.map vw = es.map vw) {k : Nat} {x y : Dg} (hx : ds[k]? = some x) (hy : es[k]? = some y) : vw x = vw y := by
  have h1 : (ds.map vw)[k]? = some (vw x) := by simp [hx]
  have h2 : (es.map vw)[k]? = some (vw y) := by simp [hy]
  rw [h, h2] at h1
  exact (Option.some.inj h1).symm
theorem map_erase (ds : List Dg) (k : Nat) : (ds.eraseIdx k).map vw = (ds.map vw).eraseIdx k := by
  rw [List.eraseIdx_eq_take_drop_succ, List.eraseIdx_eq_take_drop_succ]; simp [List.map_take, List.map_drop]
theorem u8_val_inj {b c : UInt8} (h : (Value.int .u8 b.toNat) = .int .u8 c.toNat) : b = c := by
  injection h with _ h
  apply UInt8.toNat_inj.1
  omega
theorem Deed.view {at_ what : Int} {ds cs ds' cs' es fs es' fs' : List Dg} (h1 : Deed at_ what ds cs ds' cs') (h2 : Deed at_ what es fs es' fs') (hd : ds.map vw = es.map vw) (hc : cs.map vw = fs.map vw) : ds'.map vw = es'.map vw ∧ cs'.map vw = fs'.map vw := by
  have hlen : ds.length = es.length := by have := congrArg List.length hd; simpa using this
  generalize hw : what = what2 at h2
  cases h1 with
  | bring _ _ x hx =>
    cases h2 with
    | bring _ _ y hy => rw [hlen] at hx; exact ⟨by rw [map_erase, map_erase, hd, hlen], by rw [List.map_append, List.map_append, hc]; simp [view_get hd hx hy]⟩
    | _ => omega
  | lose _ _ x hx =>
    cases h2 with
    | lose _ _ y hy => exact ⟨by rw [map_erase, map_erase, hd, hlen], hc⟩
    | _ => omega
  | double _ _ x x2 hx hx2 =>
    cases h2 with
    | double _ _ y y2 hy hy2 =>
      rw [hlen] at hx
      have := view_get hd hx hy
      simp only [vw, Prod.mk.injEq] at this
      refine ⟨?_, hc⟩
      rw [List.map_append, List.map_append, hd]
      simp [vw, hx2, hy2, this]
    | _ => omega
  | same _ _ x hx hxc =>
    cases h2 with
    | same _ _ y hy hyc => exact ⟨hd, hc⟩
    | change _ _ y y2 b hy hyc hb hy2 =>
      rw [hlen] at hx
      have := view_get hd hx hy
      simp only [vw, Prod.mk.injEq] at this
      rw [this.2.2, this.1, hyc.1] at hxc
      rcases hxc with h | h
      · cases h
      · exact (hyc.2 h).elim
    | _ => omega
  | change _ _ x x2 b hx hxc hb hx2 =>
    cases h2 with
    | same _ _ y hy hyc =>
      rw [hlen] at hx
      have := view_get hd hx hy
      simp only [vw, Prod.mk.injEq] at this
      rw [← this.2.2, ← this.1, hxc.1] at hyc
      rcases hyc with h | h
      · cases h
      · exact (hxc.2 h).elim
    | change _ _ y y2 b2 hy hyc hb2 hy2 =>
      rw [hlen] at hx hb hx2
      have := view_get hd hx hy
      simp only [vw, Prod.mk.injEq] at this
      rw [this.2.1, this.1] at hb hx2
      rw [hb] at hb2
      have hbb := u8_val_inj (Option.some.inj hb2)
      subst hbb
      refine ⟨?_, hc⟩
      rw [List.map_set, List.map_set, hd, hlen]
      congr 1
      simp [vw, hx2, hy2, this]
    | _ => omega
  | delay _ _ x hx =>
    cases h2 with
    | delay _ _ y hy => rw [hlen] at hx; exact ⟨by rw [List.map_append, List.map_append, map_erase, map_erase, hd, hlen]; simp [view_get hd hx hy], hc⟩
    | _ => omega

/-- The program's air and the document's, apart; apart from both: X, rows of the law's own. -/
def J2 (w0 w : World) (X : Nat → Prop) (p q : Nat) (ds cs es fs : List Dg) : Prop := ∃ fp fq, AirSt w w0.heap.size p fp ds cs ∧ RefSt w w0.heap.size q fq es fs ∧ (∀ k, fp k → ¬ fq k) ∧ Chg NoS w0 w ∧ ∀ k, X k → (w0.heap.size ≤ k ∧ k < w.heap.size) ∧ ¬ fp k ∧ ¬ fq k
theorem J2.other {w0 w w' : World} {X : Nat → Prop} {p q : Nat} {ds cs es fs : List Dg} (h : J2 w0 w X p q ds cs es fs) (hc : Chg NoS w w') : J2 w0 w' X p q ds cs es fs := by
  obtain ⟨fp, fq, ⟨vl, vc, hA⟩, ⟨rl, rc, hR⟩, hd, h0, hX⟩ := h
  exact ⟨fp, fq, ⟨vl, vc, hA.chg hc (fun _ _ x => x)⟩, ⟨rl, rc, hR.chg hc (fun _ _ x => x)⟩, hd, h0.trans hc, fun k hk => ⟨⟨(hX k hk).1.1, Nat.lt_of_lt_of_le (hX k hk).1.2 hc.size⟩, (hX k hk).2⟩⟩
theorem J2.write {w0 w w' : World} {X : Nat → Prop} {p q : Nat} {ds cs es fs : List Dg} (h : J2 w0 w X p q ds cs es fs) (hc : Chg X w w') : J2 w0 w' X p q ds cs es fs := by
  obtain ⟨fp, fq, ⟨vl, vc, hA⟩, ⟨rl, rc, hR⟩, hd, h0, hX⟩ := h
  exact ⟨fp, fq, ⟨vl, vc, hA.chg hc (fun k h1 h2 => (hX k h2).2.1 h1)⟩, ⟨rl, rc, hR.chg hc (fun k h1 h2 => (hX k h2).2.2 h1)⟩, hd, h0.trans2 hc (fun k hk hx => by have := hX k hx; omega), fun k hk => ⟨⟨(hX k hk).1.1, Nat.lt_of_lt_of_le (hX k hk).1.2 hc.size⟩, (hX k hk).2⟩⟩
theorem J2.less {w0 w : World} {X Y : Nat → Prop} {p q : Nat} {ds cs es fs : List Dg} (h : J2 w0 w X p q ds cs es fs) (hY : ∀ k, Y k → X k) : J2 w0 w Y p q ds cs es fs := by
  obtain ⟨fp, fq, hA, hR, hd, h0, hX⟩ := h
  exact ⟨fp, fq, hA, hR, hd, h0, fun k hk => hX k (hY k hk)⟩
theorem J2.air {w0 w w' : World} {X : Nat → Prop} {p q : Nat} {fp fq : Nat → Prop} {ds cs ds' cs' es fs : List Dg} (hA : AirSt w w0.heap.size p fp ds cs) (hR : RefSt w w0.heap.size q fq es fs) (hd : ∀ k, fp k → ¬ fq k) (h0 : Chg NoS w0 w) (hX : ∀ k, X k → (w0.heap.size ≤ k ∧ k < w.heap.size) ∧ ¬ fp k ∧ ¬ fq k)
    (hA' : AirSt w' w0.heap.size p (grown fp w w') ds' cs') (hc : Chg fp w w') : J2 w0 w' X p q ds' cs' es fs := by
  obtain ⟨vl, vc, hA⟩ := hA
  obtain ⟨rl, rc, hR⟩ := hR
  refine ⟨grown fp w w', fq, hA', ⟨rl, rc, hR.chg hc (fun k hk h => hd k h hk)⟩, fun k hk h => ?_, h0.trans2 hc (fun k hk hx => by have := hA.fpb k hx; omega), fun k hk => ⟨⟨(hX k hk).1.1, Nat.lt_of_lt_of_le (hX k hk).1.2 hc.size⟩, fun h => h.elim (hX k hk).2.1 (fun h => by have := hX k hk; omega), (hX k hk).2.2⟩⟩
  rcases hk with hk | hk
  · exact hd k hk h
  · have := hR.fpb k h; omega
theorem J2.ref {w0 w w' : World} {X : Nat → Prop} {p q : Nat} {fp fq : Nat → Prop} {ds cs es fs es' fs' : List Dg} (hA : AirSt w w0.heap.size p fp ds cs) (hR : RefSt w w0.heap.size q fq es fs) (hd : ∀ k, fp k → ¬ fq k) (h0 : Chg NoS w0 w) (hX : ∀ k, X k → (w0.heap.size ≤ k ∧ k < w.heap.size) ∧ ¬ fp k ∧ ¬ fq k)
    (hR' : RefSt w' w0.heap.size q (grown fq w w') es' fs') (hc : Chg fq w w') : J2 w0 w' X p q ds cs es' fs' := by
  obtain ⟨vl, vc, hA⟩ := hA
  obtain ⟨rl, rc, hR⟩ := hR
  refine ⟨fp, grown fq w w', ⟨vl, vc, hA.chg hc (fun k hk h => hd k hk h)⟩, hR', fun k hk h => ?_, h0.trans2 hc (fun k hk hx => by have := hR.fpb k hx; omega), fun k hk => ⟨⟨(hX k hk).1.1, Nat.lt_of_lt_of_le (hX k hk).1.2 hc.size⟩, (hX k hk).2.1, fun h => h.elim (hX k hk).2.2 (fun h => by have := hX k hk; omega)⟩⟩
  rcases h with h | h
  · exact hd k hk h
  · have := hA.fpb k hk; omega

theorem J2.did {w0 w : World} {X : Nat → Prop} {p q : Nat} {ds cs es fs : List Dg} (h : J2 w0 w X p q ds cs es fs) (what at_ : Int) (h0 : 0 ≤ what) (hl : ds.length ≤ 1099511627776) (hl2 : cs.length ≤ 1099511627776) (ha2 : at_ ≤ 9223372036854775807) (hbl : ∀ d ∈ ds, d.n ≤ 1099511627776) :
    Calls Try.prog 16 #[.pointer (some ⟨p, 0, none⟩), .int .u8 what, .int .i64 at_] w (endW (fun v w' => ∃ e, v = .int .i64 e ∧ ∃ ds' cs', Did at_ what ds cs e ds' cs' ∧ J2 w0 w' X p q ds' cs' es fs ∧ (∃ fp : Nat → Prop, (∀ k, fp k → w0.heap.size ≤ k) ∧ Chg fp w w')) (fun _ _ => False)) := by
  by_cases h1 : 5 ≤ what ∨ at_ < 0
  · refine Calls.then (Do_arg (ds := []) (cs := []) (base := 0) (fp := fun _ => False) what at_ h1) ?_
    rintro v w' ⟨rfl, rfl⟩
    exact ⟨2, rfl, ds, cs, .inl ⟨h1, rfl, rfl, rfl⟩, h, NoS, fun _ x => x.elim, Chg.refl _ _⟩
  obtain ⟨fp, fq, hA, hR, hd, hc0, hX⟩ := h
  by_cases h2 : ds.length = 0
  · have h2 : ds = [] := List.length_eq_zero_iff.1 h2
    subst h2
    refine Calls.then (Do_none hA what at_ (by omega) (by omega)) ?_
    rintro v w' ⟨rfl, rfl⟩
    exact ⟨5, rfl, [], cs, .inr (.inl ⟨by omega, by omega, rfl, rfl, rfl, rfl⟩), ⟨fp, fq, hA, hR, hd, hc0, hX⟩, NoS, fun _ x => x.elim, Chg.refl _ _⟩
  · refine Calls.then (Do_ok hA what at_ h0 (by omega) (by omega) (by omega) hl hl2 ha2 hbl) ?_
    rintro v w' ⟨rfl, ds', cs', hdd, hA', hc⟩
    refine ⟨0, rfl, ds', cs', .inr (.inr ⟨by omega, by omega, by omega, rfl, hdd⟩), J2.air hA hR hd hc0 hX hA' hc, fp, fun k hk => ?_, hc⟩
    obtain ⟨_, _, hA⟩ := hA
    exact (hA.fpb k hk).1
theorem J2.rdid {w0 w : World} {X : Nat → Prop} {p q : Nat} {ds cs es fs : List Dg} (h : J2 w0 w X p q ds cs es fs) (what at_ : Int) (h0 : 0 ≤ what) (hl : es.length ≤ 1099511627776) (hl2 : fs.length ≤ 1099511627776) (ha2 : at_ ≤ 9223372036854775807) (hbl : ∀ d ∈ es, d.n ≤ 1099511627776) :
    Calls Try.prog 17 #[.pointer (some ⟨q, 0, none⟩), .int .u8 what, .int .i64 at_] w (endW (fun v w' => ∃ e, v = .int .i64 e ∧ ∃ es' fs', Did at_ what es fs e es' fs' ∧ J2 w0 w' X p q ds cs es' fs') (fun _ _ => False)) := by
  by_cases h1 : 5 ≤ what ∨ at_ < 0
  · refine Calls.then (rDo_arg _ what at_ h1) ?_
    rintro v w' ⟨rfl, rfl⟩
    exact ⟨2, rfl, es, fs, .inl ⟨h1, rfl, rfl, rfl⟩, h⟩
  obtain ⟨fp, fq, hA, hR, hd, hc0, hX⟩ := h
  by_cases h2 : es.length = 0
  · have h2 : es = [] := List.length_eq_zero_iff.1 h2
    subst h2
    refine Calls.then (rDo_none hR what at_ (by omega) (by omega)) ?_
    rintro v w' ⟨rfl, rfl⟩
    exact ⟨5, rfl, [], fs, .inr (.inl ⟨by omega, by omega, rfl, rfl, rfl, rfl⟩), ⟨fp, fq, hA, hR, hd, hc0, hX⟩⟩
  · refine Calls.then (rDo_ok hR what at_ h0 (by omega) (by omega) (by omega) hl hl2 ha2 hbl) ?_
    rintro v w' ⟨rfl, es', fs', hdd, hR', hc⟩
    exact ⟨0, rfl, es', fs', .inr (.inr ⟨by omega, by omega, by omega, rfl, hdd⟩), J2.ref hA hR hd hc0 hX hR' hc⟩
theorem Did.view {at_ what e e2 : Int} {ds cs ds' cs' es fs es' fs' : List Dg} (h1 : Did at_ what ds cs e ds' cs') (h2 : Did at_ what es fs e2 es' fs') (hd : ds.map vw = es.map vw) (hc : cs.map vw = fs.map vw) : e = e2 ∧ ds'.map vw = es'.map vw ∧ cs'.map vw = fs'.map vw := by
  have hlen : ds.length = es.length := by have := congrArg List.length hd; simpa using this
  rcases h1 with ⟨h, rfl, rfl, rfl⟩ | ⟨ha, hb, rfl, rfl, rfl, rfl⟩ | ⟨ha, hb, hl, rfl, h⟩ <;> rcases h2 with ⟨h', rfl, rfl, rfl⟩ | ⟨ha', hb', rfl, rfl, rfl, rfl⟩ | ⟨ha', hb', hl', rfl, h'⟩
  · exact ⟨rfl, hd, hc⟩
  · omega
  · omega
  · omega
  · exact ⟨rfl, hd, hc⟩
  · rw [← hlen] at hl'; simp at hl'
  · omega
  · rw [hlen] at hl; simp at hl
  · exact ⟨rfl, h.view h' hd hc⟩
end Go.Proofs.Ytcfagkmkfjhhiaa.B
