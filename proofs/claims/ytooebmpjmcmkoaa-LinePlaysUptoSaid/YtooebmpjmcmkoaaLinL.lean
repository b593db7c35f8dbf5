/-
  line: several ends at once; no end.
-/
import Derived.Test.YtooebmpjmcmkoaaLinK
set_option maxRecDepth 100000
set_option linter.unusedVariables false
set_option linter.unusedSimpArgs false
namespace Go.Proofs.Ytooebmpjmcmkoaa.B
open Go Go.Proofs Go.Proofs.YtooebmpjmcmkoaaEng

abbrev Ents := Nat → Option (TypeId × Nat × Lm)
def upd (ms : Ents) (i : Nat) (e : TypeId × Nat × Lm) : Ents := fun j => if j = i then some e else ms j
theorem upd_same {ms : Ents} {i : Nat} {e : TypeId × Nat × Lm} : upd ms i e i = some e := if_pos rfl
theorem upd_other {ms : Ents} {i j : Nat} {e : TypeId × Nat × Lm} (h : j ≠ i) : upd ms i e j = ms j := if_neg h
structure Sts (w0 w : World) (X : Nat → Prop) (ms : Ents) (Fs : Nat → Nat → Prop) : Prop where
  ch : Chg NoS w0 w
  xb : ∀ k, X k → w0.heap.size ≤ k ∧ k < w.heap.size
  en : ∀ i t p m, ms i = some (t, p, m) → t ≠ 31 ∧ EndAt t w X (Fs i) p m
  fx : ∀ i k, Fs i k → X k
  dj : ∀ i j k, i ≠ j → Fs i k → Fs j k → False
def Keeps (w : World) (X : Nat → Prop) (w' : World) (X' : Nat → Prop) : Prop := ∀ v bs, RowIn w X v bs → RowIn w' X' v bs
theorem Sts.start (w : World) : Sts w w (fun _ => False) (fun _ => none) (fun _ _ => False) := ⟨Chg.refl _ _, fun k h => h.elim, (fun i t p m h => by cases h), fun i k h => h, fun i j k _ h _ => h⟩
theorem Sts.act' {w0 w w' : World} {X F' : Nat → Prop} {ms : Ents} {Fs : Nat → Nat → Prop} {i : Nat} {t : TypeId} {p : Nat} {m m' : Lm} (h : Sts w0 w X ms Fs) (hi : ms i = some (t, p, m)) (he : EndAt t w' (orX X F') F' p m') (hc : Chg (Fs i) w w') (hf : ∀ k, F' k → Fs i k ∨ w.heap.size ≤ k) :
    ∃ X' Fs', Sts w0 w' X' (upd ms i (t, p, m')) Fs' ∧ Keeps w X w' X' ∧ Chg (Fs i) w w' ∧ (∀ k, X' k → X k ∨ w.heap.size ≤ k) ∧ ∀ j k, Fs' j k → (j = i ∧ F' k) ∨ (j ≠ i ∧ Fs j k) := by
  have ht := (h.en i t p m hi).1
  have hwide : ∀ k, k < w.heap.size → orX X F' k → X k := fun k hk hx => hx.elim id fun hx => (hf k hx).elim (fun hx => h.fx i k hx) fun hx => by omega
  have hfl : ∀ k, F' k → k < w'.heap.size := by obtain ⟨_, _, _, _, he⟩ := he; exact he.fl
  have hsz := h.ch.size
  refine ⟨orX X F', fun j => if j = i then F' else Fs j, ⟨h.ch.trans2 hc fun k hk hF => ?_, ?_, ?_, ?_, ?_⟩, ?_, hc, fun k hk => hk.elim .inl fun hk => (hf k hk).imp (fun h2 => h.fx i k h2) id, ?_⟩
  · have := (h.xb k (h.fx i k hF)).1; omega
  · intro k hk
    rcases hk with hk | hk
    · have := h.xb k hk; have := hc.size; omega
    · refine ⟨?_, hfl k hk⟩
      rcases hf k hk with hx | hx
      · exact (h.xb k (h.fx i k hx)).1
      · omega
  · intro j t2 p2 m2 hj
    by_cases hji : j = i
    · subst hji
      rw [upd_same] at hj
      injection hj with hj
      injection hj with h1 h2
      injection h2 with h2 h3
      subst h1 h2 h3
      rw [if_pos rfl]
      exact ⟨ht, he⟩
    · rw [upd_other hji] at hj
      rw [if_neg hji]
      obtain ⟨ht2, he2⟩ := h.en j t2 p2 m2 hj
      refine ⟨ht2, (he2.wide hwide fun k hk => .inl (h.fx j k hk)).chg hc fun k hk hF => ⟨.inl (h.fx i k hF), fun hF2 => h.dj j i k hji hF2 hF⟩⟩
  · intro j k hk
    by_cases hji : j = i
    · rw [if_pos hji] at hk; exact .inr hk
    · rw [if_neg hji] at hk; exact .inl (h.fx j k hk)
  · intro j1 j2 k hne h1 h2
    have key : ∀ j k, j ≠ i → F' k → Fs j k → False := fun j k hj hF hFj => by
      rcases hf k hF with hx | hx
      · exact h.dj j i k hj hFj hx
      · have := (h.xb k (h.fx j k hFj)).2; omega
    by_cases e1 : j1 = i
    · rw [if_pos e1] at h1
      rw [if_neg (fun e2 => hne (e1.trans e2.symm))] at h2
      exact key j2 k (fun e2 => hne (e1.trans e2.symm)) h1 h2
    · rw [if_neg e1] at h1
      by_cases e2 : j2 = i
      · rw [if_pos e2] at h2
        exact key j1 k e1 h2 h1
      · rw [if_neg e2] at h2
        exact h.dj j1 j2 k hne h1 h2
  · intro v bs hr
    exact (hr.wide hwide).chg hc fun k _ hF => .inl (h.fx i k hF)
  · intro j k hk
    by_cases hji : j = i
    · rw [if_pos hji] at hk; exact .inl ⟨hji, hk⟩
    · rw [if_neg hji] at hk; exact .inr ⟨hji, hk⟩
theorem Sts.act {w0 w w' : World} {X : Nat → Prop} {ms : Ents} {Fs : Nat → Nat → Prop} {i : Nat} {t : TypeId} {p : Nat} {m m' : Lm} (h : Sts w0 w X ms Fs) (hi : ms i = some (t, p, m)) (ha : Acted t w X (Fs i) p m' w') :
    ∃ X' Fs', Sts w0 w' X' (upd ms i (t, p, m')) Fs' ∧ Keeps w X w' X' ∧ Chg (Fs i) w w' ∧ ∀ k, X' k → X k ∨ w.heap.size ≤ k := by
  obtain ⟨F', he, hc, hf⟩ := ha
  obtain ⟨X', Fs', h1, h2, h3, h4, _⟩ := h.act' hi he hc hf
  exact ⟨X', Fs', h1, h2, h3, h4⟩
/-- what no end owns is no more to be written -/
theorem Sts.less {w0 w : World} {X T : Nat → Prop} {ms : Ents} {Fs : Nat → Nat → Prop} (h : Sts w0 w X ms Fs) (hT : ∀ i k, Fs i k → ¬ T k) : Sts w0 w (fun k => X k ∧ ¬ T k) ms Fs :=
  ⟨h.ch, fun k hk => h.xb k hk.1, fun i t p m hi => ⟨(h.en i t p m hi).1, (h.en i t p m hi).2.wide (fun k _ hk => hk.1) fun k hk => ⟨h.fx i k hk, hT i k hk⟩⟩, fun i k hk => ⟨h.fx i k hk, hT i k hk⟩, h.dj⟩
theorem Sts.quiet {w0 w w' : World} {X : Nat → Prop} {ms : Ents} {Fs : Nat → Nat → Prop} (h : Sts w0 w X ms Fs) (hc : Chg NoS w w') : Sts w0 w' X ms Fs ∧ Keeps w X w' X :=
  ⟨⟨h.ch.trans hc, fun k hk => ⟨(h.xb k hk).1, Nat.lt_of_lt_of_le (h.xb k hk).2 hc.size⟩, fun i t p m hi => ⟨(h.en i t p m hi).1, (h.en i t p m hi).2.chg hc fun k _ h => h.elim⟩, h.fx, h.dj⟩, fun v bs hr => hr.chg hc fun k _ h => h.elim⟩
theorem Sts.born {w0 w : World} {X : Nat → Prop} {ms : Ents} {Fs : Nat → Nat → Prop} {t : TypeId} {ep i : Nat} (h : Sts w0 w X ms Fs) (ht : t ≠ 31) (hi : ∀ k, ¬ Fs i k) :
    ∃ Fs', Sts w0 (w.alloc (.cells (ecells (Lm.new ep) (.slice none 0 0) (.slice none 0 0)) t)) (orX X (OnlyB w.heap.size)) (upd ms i (t, w.heap.size, Lm.new ep)) Fs' ∧ Keeps w X (w.alloc (.cells (ecells (Lm.new ep) (.slice none 0 0) (.slice none 0 0)) t)) (orX X (OnlyB w.heap.size)) ∧ ∀ j, j ≠ i → Fs' j = Fs j := by
  have hc := chg_alloc w (.cells (ecells (Lm.new ep) (.slice none 0 0) (.slice none 0 0)) t) NoS
  have hsz := size_alloc w (.cells (ecells (Lm.new ep) (.slice none 0 0) (.slice none 0 0)) t)
  have hb := EndAt.born (t := t) w X ep
  have hwide : ∀ k, k < w.heap.size → orX X (OnlyB w.heap.size) k → X k := fun k hk hx => hx.elim id fun hx => by have : k = _ := hx; omega
  have hs0 := h.ch.size
  refine ⟨fun j => if j = i then OnlyB w.heap.size else Fs j, ⟨h.ch.trans hc, ?_, ?_, ?_, ?_⟩, fun v bs hr => (hr.wide hwide).chg hc fun k _ h => h.elim, fun j hj => if_neg hj⟩
  · intro k hk
    rw [hsz]
    rcases hk with hk | hk
    · have := h.xb k hk; omega
    · have : k = _ := hk; omega
  · intro j t2 p2 m2 hj
    by_cases hji : j = i
    · subst hji
      rw [upd_same] at hj
      injection hj with hj
      injection hj with h1 h2
      injection h2 with h2 h3
      subst h1 h2 h3
      rw [if_pos rfl]
      exact ⟨ht, hb⟩
    · rw [upd_other hji] at hj
      rw [if_neg hji]
      obtain ⟨ht2, he2⟩ := h.en j t2 p2 m2 hj
      exact ⟨ht2, (he2.wide hwide fun k hk => .inl (h.fx j k hk)).chg hc fun k _ h => h.elim⟩
  · intro j k hk
    by_cases hji : j = i
    · rw [if_pos hji] at hk; exact .inr hk
    · rw [if_neg hji] at hk; exact .inl (h.fx j k hk)
  · intro j1 j2 k hne h1 h2
    have key : ∀ j k, OnlyB w.heap.size k → Fs j k → False := fun j k hk hF => by
      have := (h.xb k (h.fx j k hF)).2
      have : k = _ := hk
      omega
    by_cases e1 : j1 = i
    · rw [if_pos e1] at h1
      rw [if_neg (fun e2 => hne (e1.trans e2.symm))] at h2
      exact key _ k h1 h2
    · rw [if_neg e1] at h1
      by_cases e2 : j2 = i
      · rw [if_pos e2] at h2
        exact key _ k h2 h1
      · rw [if_neg e2] at h2
        exact h.dj j1 j2 k hne h1 h2
theorem CameEnd.acted {t : TypeId} {w w' : World} {X F : Nat → Prop} {p : Nat} {m : Lm} {v : Value} (hE : EndAt t w X F p m) (h : CameEnd t w X F p m v w') : Acted t w X F p { m with fresh := [] } w' := by
  obtain ⟨a, c, us, e, ho, hr, hb, hc, hz, he⟩ := h
  obtain ⟨_, _, _, _, hv⟩ := hE
  exact ⟨_, he.wide (fun k _ hk => hk.elim id fun hk => hv.fx k hk.1) (fun k hk => .inr hk), hc.mono fun k _ e => hv.fp k (.inl e), fun k hk => .inl hk.1⟩

/-! ### no end -/
theorem Reset_nil (w : World) (ep : Int) : Calls Try.prog 17 #[.pointer none, .int .u32 ep] w (endW (fun v w' => v = .tuple #[] ∧ w' = w) (fun _ _ => False)) := by
  refine F17_calls _ _ ?_
  delta F17
  rw [if_neg (by simp)]
  exact ⟨rfl, rfl⟩
theorem Send_nil (w : World) (a : Option Addr) (n c : Nat) : Calls Try.prog 18 #[.pointer none, .slice a n c] w (endW (fun v w' => v = .int .i64 1 ∧ w' = w) (fun _ _ => False)) := by
  refine F18_calls _ _ _ _ ?_
  delta F18
  rw [if_pos (by simp)]
  exact ⟨rfl, rfl⟩
theorem Take_nil (w : World) (a : Option Addr) (n c : Nat) : Calls Try.prog 19 #[.pointer none, .slice a n c] w (endW (fun v w' => v = .int .i64 1 ∧ w' = w) (fun _ _ => False)) := by
  refine F19_calls _ _ _ _ ?_
  delta F19
  rw [if_pos (by simp)]
  exact ⟨rfl, rfl⟩
theorem Tick_nil (w : World) : Calls Try.prog 20 #[.pointer none] w (endW (fun v w' => v = .slice none 0 0 ∧ w' = w) (fun _ _ => False)) := by
  refine F20_calls _ ?_
  delta F20
  rw [if_pos (by simp)]
  exact ⟨rfl, rfl⟩
theorem Came_nil (w : World) : Calls Try.prog 15 #[.pointer none] w (endW (fun v w' => v = .slice none 0 0 ∧ w' = w) (fun _ _ => False)) := by
  refine F15_calls _ ?_
  delta F15
  rw [if_pos (by simp)]
  exact ⟨rfl, rfl⟩
theorem Left_nil (w : World) : Calls Try.prog 21 #[.pointer none] w (endW (fun v w' => v = .int .i64 0 ∧ w' = w) (fun _ _ => False)) := by
  refine F21_calls _ ?_
  delta F21
  rw [if_pos (by simp)]
  exact ⟨rfl, rfl⟩

/-! ### what is sealed opens -/
theorem opened_sealed (bs : List UInt8) : opened (S.sealed bs) = (0, bs) := by
  obtain ⟨x, y, z, u, e, ho⟩ := S.opens_sealed bs
  rw [e, opened_of, if_pos ho]
theorem take_sealed (m : Lm) (bs : List UInt8) (h : 14 ≤ bs.length) : m.take (S.sealed bs) = match parse bs with
  | none => (70, m)
  | some d => (0, m.hear d) := by
  rw [take_cases, opened_sealed, if_neg (by simp), if_neg (by simp; omega)]
  rfl
end Go.Proofs.Ytooebmpjmcmkoaa.B
