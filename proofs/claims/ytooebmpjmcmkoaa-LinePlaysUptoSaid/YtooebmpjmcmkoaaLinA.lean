/-
  line: an end as data, and how it lies in memory (the program's and the document's lie alike); New, Reset, Came, Left, Send.
-/
import Derived.Test.YtooebmpjmcmkoaaCrcE
import Derived.Test.YtooebmpjmcmkoaaEngU
import Derived.Test.YtooebmpjmcmkoaaEngT
set_option maxRecDepth 100000
set_option linter.unusedVariables false
set_option linter.unusedSimpArgs false
namespace Go.Proofs.Ytooebmpjmcmkoaa.B
open Go Go.Proofs Go.Proofs.YtooebmpjmcmkoaaEng

structure Lm where
  ep : Nat
  sent : List (List UInt8)
  got : Nat
  come : Nat
  fresh : List (List UInt8)
def Lm.new (ep : Nat) : Lm := ⟨ep, [], 0, 0, []⟩
def Lm.send (m : Lm) (b : List UInt8) : Int × Lm := if 8192 < b.length then (3, m) else if 4096 ≤ m.sent.length then (4, m) else (0, { m with sent := m.sent ++ [b] })

/-- the cells of an end -/
def ecells (m : Lm) (sv fv : Value) : Array Value := #[.int .u32 m.ep, sv, .int .u32 m.got, .int .u32 m.come, fv]
structure EndV (t : TypeId) (w : World) (X F : Nat → Prop) (p : Nat) (m : Lm) (sv fv : Value) (vs us : List Value) : Prop where
  blk : w.heap[p]? = some (.cells (ecells m sv fv) t (0, 0))
  so : OwnT w 31 sv m.sent.length vs
  fo : OwnT w 31 fv m.fresh.length us
  si : BRows w X vs m.sent
  fi : BRows w X us m.fresh
  fp : ∀ k, k = p ∨ tBlk sv k ∨ tBlk fv k → F k
  fx : ∀ k, F k → X k
  fl : ∀ k, F k → k < w.heap.size
  dj : ∀ k, tBlk sv k → ¬ tBlk fv k
def EndAt (t : TypeId) (w : World) (X F : Nat → Prop) (p : Nat) (m : Lm) : Prop := ∃ sv fv vs us, EndV t w X F p m sv fv vs us
def orX (X F : Nat → Prop) (k : Nat) : Prop := X k ∨ F k
/-- what an act on an end leaves -/
def Acted (t : TypeId) (w : World) (X F : Nat → Prop) (p : Nat) (m' : Lm) (w' : World) : Prop := ∃ F', EndAt t w' (orX X F') F' p m' ∧ Chg F w w' ∧ ∀ k, F' k → F k ∨ w.heap.size ≤ k
theorem EndV.chg {S : Nat → Prop} {t : TypeId} {w w' : World} {X F : Nat → Prop} {p : Nat} {m : Lm} {sv fv : Value} {vs us : List Value} (h : EndV t w X F p m sv fv vs us) (hc : Chg S w w') (hs : ∀ k, k < w.heap.size → S k → X k ∧ ¬ F k) : EndV t w' X F p m sv fv vs us where
  blk := hc.blk h.blk fun hS => (hs p (lt_of_blk h.blk) hS).2 (h.fp p (.inl rfl))
  so := h.so.chg hc fun k hk hS => (hs k (h.so.lt hk) hS).2 (h.fp k (.inr (.inl hk)))
  fo := h.fo.chg hc fun k hk hS => (hs k (h.fo.lt hk) hS).2 (h.fp k (.inr (.inr hk)))
  si := h.si.chg hc fun k hk hS => (hs k hk hS).1
  fi := h.fi.chg hc fun k hk hS => (hs k hk hS).1
  fp := h.fp
  fx := h.fx
  fl := fun k hk => Nat.lt_of_lt_of_le (h.fl k hk) hc.size
  dj := h.dj
theorem EndAt.chg {S : Nat → Prop} {t : TypeId} {w w' : World} {X F : Nat → Prop} {p : Nat} {m : Lm} (h : EndAt t w X F p m) (hc : Chg S w w') (hs : ∀ k, k < w.heap.size → S k → X k ∧ ¬ F k) : EndAt t w' X F p m := by
  obtain ⟨sv, fv, vs, us, h⟩ := h
  exact ⟨_, _, _, _, h.chg hc hs⟩
/-- more may be written: but nothing that was there -/
theorem EndAt.wide {t : TypeId} {w : World} {X Y F : Nat → Prop} {p : Nat} {m : Lm} (h : EndAt t w X F p m) (h1 : ∀ k, k < w.heap.size → Y k → X k) (h2 : ∀ k, F k → Y k) : EndAt t w Y F p m := by
  obtain ⟨sv, fv, vs, us, h⟩ := h
  exact ⟨sv, fv, vs, us, h.blk, h.so, h.fo, h.si.wide h1, h.fi.wide h1, h.fp, h2, h.fl, h.dj⟩

theorem info31 : (Try.prog.info? 31).map (fun i => (i.zero, i.size, i.bytes)) = some (some (.slice none 0 0), 1, 24) := by kernel_rfl
theorem und30 : Try.prog.underlying 30 = some (.slice 31) := by kernel_rfl

theorem New_ok {w : World} {ep : Nat} : Calls Try.prog 11 #[.int .u32 ep] w (endW (fun v w' => v = .pointer (some ⟨w.heap.size, 0, none⟩) ∧ w' = w.alloc (.cells (ecells (Lm.new ep) (.slice none 0 0) (.slice none 0 0)) 54)) (fun _ _ => False)) := by
  refine F11_calls _ ?_
  exact ⟨rfl, rfl⟩
theorem rNew_ok {w : World} {ep : Nat} : Calls Try.prog 12 #[.int .u32 ep] w (endW (fun v w' => v = .pointer (some ⟨w.heap.size, 0, none⟩) ∧ w' = w.alloc (.cells (ecells (Lm.new ep) (.slice none 0 0) (.slice none 0 0)) 56)) (fun _ _ => False)) := by
  refine F12_calls _ ?_
  exact ⟨rfl, rfl⟩
theorem EndAt.born {t : TypeId} (w : World) (X : Nat → Prop) (ep : Nat) : EndAt t (w.alloc (.cells (ecells (Lm.new ep) (.slice none 0 0) (.slice none 0 0)) t)) (orX X (OnlyB w.heap.size)) (OnlyB w.heap.size) w.heap.size (Lm.new ep) :=
  ⟨.slice none 0 0, .slice none 0 0, [], [], blk_alloc _ _, OwnT.nil _ _, OwnT.nil _ _, trivial, trivial, fun k hk => by
    rcases hk with rfl | hk | hk
    · rfl
    · exact hk.elim
    · exact hk.elim, fun k hk => .inr hk, fun k hk => by rw [size_alloc, show k = w.heap.size from hk]; omega, fun k hk => hk.elim⟩

/-- what every field is -/
theorem ecell {t : TypeId} {w : World} {X F : Nat → Prop} {p : Nat} {m : Lm} {sv fv : Value} {vs us : List Value} (h : EndV t w X F p m sv fv vs us) :
    w.cell? ⟨p, 0, none⟩ = some (.int .u32 m.ep) ∧ w.cell? ⟨p, 1, none⟩ = some sv ∧ w.cell? ⟨p, 2, none⟩ = some (.int .u32 m.got) ∧ w.cell? ⟨p, 3, none⟩ = some (.int .u32 m.come) ∧ w.cell? ⟨p, 4, none⟩ = some fv := by
  refine ⟨?_, ?_, ?_, ?_, ?_⟩ <;> rw [cell_blk h.blk] <;> rfl

theorem Left_ok {t : TypeId} {w : World} {X F : Nat → Prop} {p : Nat} {m : Lm} (h : EndAt t w X F p m) : Calls Try.prog 21 #[.pointer (some ⟨p, 0, none⟩)] w (endW (fun v w' => v = .int .i64 (m.sent.length : Int) ∧ w' = w) (fun _ _ => False)) := by
  obtain ⟨sv, fv, vs, us, h⟩ := h
  obtain ⟨a, c, rfl, _, _⟩ := h.so.form
  refine F21_calls _ ?_
  delta F21
  rw [if_neg (by simp)]
  exact wSome_of rfl ⟨_, _, _, by rw [addK_lit]; exact (ecell h).2.1, rfl, rfl⟩
theorem rLeft_ok {t : TypeId} {w : World} {X F : Nat → Prop} {p : Nat} {m : Lm} (h : EndAt t w X F p m) : Calls Try.prog 31 #[.pointer (some ⟨p, 0, none⟩)] w (endW (fun v w' => v = .int .i64 (m.sent.length : Int) ∧ w' = w) (fun _ _ => False)) := by
  obtain ⟨sv, fv, vs, us, h⟩ := h
  obtain ⟨a, c, rfl, _, _⟩ := h.so.form
  refine F31_calls _ ?_
  delta F31
  exact wSome_of rfl ⟨_, _, _, by rw [addK_lit]; exact (ecell h).2.1, rfl, rfl⟩

/-- one field is laid anew -/
theorem EndV.part {t : TypeId} {w w' : World} {X F : Nat → Prop} {p : Nat} {m m' : Lm} {sv fv sv' fv' : Value} {vs us vs' us' : List Value} (h : EndV t w X F p m sv fv vs us) (ht : t ≠ 31)
    (hc : Chg (OnlyB p) w w') (hb : w'.heap[p]? = some (.cells (ecells m' sv' fv') t (0, 0)))
    (hs : OwnT w 31 sv' m'.sent.length vs') (hsi : BRows w X vs' m'.sent) (hf : OwnT w 31 fv' m'.fresh.length us') (hfi : BRows w X us' m'.fresh)
    (h1 : ∀ k, tBlk sv' k → tBlk sv k) (h2 : ∀ k, tBlk fv' k → tBlk fv k) : EndV t w' X F p m' sv' fv' vs' us' where
  blk := hb
  so := hs.chg hc fun k hk e => by
    rw [show k = p from e] at hk
    exact hs.ne h.blk (Ne.symm ht) hk
  fo := hf.chg hc fun k hk e => by
    rw [show k = p from e] at hk
    exact hf.ne h.blk (Ne.symm ht) hk
  si := hsi.chg hc fun k _ e => h.fx k (h.fp k (.inl e))
  fi := hfi.chg hc fun k _ e => h.fx k (h.fp k (.inl e))
  fp := fun k hk => h.fp k (by
    rcases hk with e | hk | hk
    · exact .inl e
    · exact .inr (.inl (h1 k hk))
    · exact .inr (.inr (h2 k hk)))
  fx := h.fx
  fl := fun k hk => Nat.lt_of_lt_of_le (h.fl k hk) hc.size
  dj := fun k hk hk' => h.dj k (h1 k hk) (h2 k hk')

/-- Came: the rows that have come are the caller's; the end has none. -/
def CameEnd (t : TypeId) (w : World) (X F : Nat → Prop) (p : Nat) (m : Lm) (v : Value) (w' : World) : Prop :=
  ∃ a c us, v = .slice a m.fresh.length c ∧ OwnT w' 31 v m.fresh.length us ∧ BRows w' X us m.fresh ∧ (∀ k, tBlk v k → F k ∧ k ≠ p) ∧ Chg (OnlyB p) w w' ∧ w'.heap.size = w.heap.size ∧
    EndAt t w' X (fun k => F k ∧ ¬ tBlk v k) p { m with fresh := [] }
theorem came_of {t : TypeId} {w w' : World} {X F : Nat → Prop} {p : Nat} {m : Lm} {sv fv : Value} {vs us : List Value} (h : EndV t w X F p m sv fv vs us) (ht : t ≠ 31) (hc : Chg (OnlyB p) w w') (hz : w'.heap.size = w.heap.size)
    (hb : w'.heap[p]? = some (.cells (ecells { m with fresh := [] } sv (.slice none 0 0)) t (0, 0))) : CameEnd t w X F p m fv w' := by
  obtain ⟨a, c, rfl, _, _⟩ := h.fo.form
  have hp : ¬ tBlk (.slice a m.fresh.length c) p := h.fo.ne h.blk (Ne.symm ht)
  have hpart := h.part (m' := { m with fresh := [] }) (sv' := sv) (fv' := .slice none 0 0) ht hc hb h.so h.si (OwnT.nil _ _) (show BRows w X [] [] from trivial) (fun k hk => hk) (fun k hk => hk.elim)
  refine ⟨a, c, us, rfl, h.fo.chg hc fun k hk e => hp (by rw [show k = p from e] at hk; exact hk), h.fi.chg hc fun k _ e => h.fx k (h.fp k (.inl e)), fun k hk => ⟨h.fp k (.inr (.inr hk)), fun e => hp (e ▸ hk)⟩, hc, hz, ?_⟩
  refine ⟨sv, .slice none 0 0, vs, [], hpart.blk, hpart.so, hpart.fo, hpart.si, hpart.fi, fun k hk => ?_, fun k hk => h.fx k hk.1, fun k hk => hpart.fl k hk.1, hpart.dj⟩
  rcases hk with rfl | hk | hk
  · exact ⟨h.fp _ (.inl rfl), hp⟩
  · exact ⟨h.fp k (.inr (.inl hk)), h.dj k hk⟩
  · exact hk.elim
theorem Came_ok {t : TypeId} {w : World} {X F : Nat → Prop} {p : Nat} {m : Lm} (h : EndAt t w X F p m) (ht : t ≠ 31) : Calls Try.prog 15 #[.pointer (some ⟨p, 0, none⟩)] w (endW (CameEnd t w X F p m) (fun _ _ => False)) := by
  obtain ⟨sv, fv, vs, us, h⟩ := h
  obtain ⟨a, c, rfl, _, _⟩ := h.fo.form
  refine F15_calls _ ?_
  delta F15
  rw [if_neg (by simp)]
  refine wSome_of rfl ⟨_, _, _, by rw [addK_lit]; exact (ecell h).2.2.2.2, wSome_of rfl ?_⟩
  rw [addK_lit]
  refine setW_blk h.blk (by simp [ecells]) rfl ?_
  intro w1 hb hc hz
  exact came_of h ht hc hz hb
theorem rCame_ok {t : TypeId} {w : World} {X F : Nat → Prop} {p : Nat} {m : Lm} (h : EndAt t w X F p m) (ht : t ≠ 31) : Calls Try.prog 16 #[.pointer (some ⟨p, 0, none⟩)] w (endW (CameEnd t w X F p m) (fun _ _ => False)) := by
  obtain ⟨sv, fv, vs, us, h⟩ := h
  obtain ⟨a, c, rfl, _, _⟩ := h.fo.form
  refine F16_calls _ ?_
  delta F16
  refine wSome_of rfl ⟨_, _, _, by rw [addK_lit]; exact (ecell h).2.2.2.2, wSome_of rfl ?_⟩
  rw [addK_lit]
  refine setW_blk h.blk (by simp [ecells]) rfl ?_
  intro w1 hb hc hz
  exact came_of h ht hc hz hb

/-- an end in its first state -/
theorem Reset_ok {t : TypeId} {w : World} {X F : Nat → Prop} {p : Nat} {m : Lm} {ep : Nat} (h : EndAt t w X F p m) : Calls Try.prog 17 #[.pointer (some ⟨p, 0, none⟩), .int .u32 ep] w (endW (fun v w' => v = .tuple #[] ∧ EndAt t w' X F p (Lm.new ep) ∧ Chg (OnlyB p) w w' ∧ w'.heap.size = w.heap.size) (fun _ _ => False)) := by
  obtain ⟨sv, fv, vs, us, h⟩ := h
  refine F17_calls _ _ ?_
  delta F17
  rw [if_pos (by simp)]
  refine wSome_of rfl ?_
  simp only [addK_lit]
  refine (sets_blk (vs := [.int .u32 ep, .slice none 0 0, .int .u32 0, .int .u32 0, .slice none 0 0]) h.blk rfl (by simp [oneC]) fun w' b' c' z' => ?_ : setsW _ _ _ _ _)
  exact ⟨trivial, ⟨.slice none 0 0, .slice none 0 0, [], [], b', OwnT.nil _ _, OwnT.nil _ _, trivial, trivial, fun k hk => by
    rcases hk with rfl | hk | hk
    · exact h.fp _ (.inl rfl)
    · exact hk.elim
    · exact hk.elim, h.fx, fun k hk => by rw [z']; exact h.fl k hk, fun k hk => hk.elim⟩, c', z'⟩
theorem rReset_ok {t : TypeId} {w : World} {X F : Nat → Prop} {p : Nat} {m : Lm} {ep : Nat} (h : EndAt t w X F p m) : Calls Try.prog 30 #[.pointer (some ⟨p, 0, none⟩), .int .u32 ep] w (endW (fun v w' => v = .tuple #[] ∧ EndAt t w' X F p (Lm.new ep) ∧ Chg (OnlyB p) w w' ∧ w'.heap.size = w.heap.size) (fun _ _ => False)) := by
  obtain ⟨sv, fv, vs, us, h⟩ := h
  refine F30_calls _ _ ?_
  delta F30
  refine wSome_of rfl ?_
  simp only [addK_lit]
  refine (sets_blk (vs := [.int .u32 ep, .slice none 0 0, .int .u32 0, .int .u32 0, .slice none 0 0]) h.blk rfl (by simp [oneC]) fun w' b' c' z' => ?_ : setsW _ _ _ _ _)
  exact ⟨trivial, ⟨.slice none 0 0, .slice none 0 0, [], [], b', OwnT.nil _ _, OwnT.nil _ _, trivial, trivial, fun k hk => by
    rcases hk with rfl | hk | hk
    · exact h.fp _ (.inl rfl)
    · exact hk.elim
    · exact hk.elim, h.fx, fun k hk => by rw [z']; exact h.fl k hk, fun k hk => hk.elim⟩, c', z'⟩
end Go.Proofs.Ytooebmpjmcmkoaa.B
