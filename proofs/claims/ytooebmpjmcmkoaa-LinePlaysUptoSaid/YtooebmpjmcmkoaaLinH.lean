/-
  line: what Take does to an end: its parts.
-/
import Derived.Test.YtooebmpjmcmkoaaLinG
set_option maxRecDepth 100000
set_option linter.unusedVariables false
set_option linter.unusedSimpArgs false
namespace Go.Proofs.Ytooebmpjmcmkoaa.B
open Go Go.Proofs Go.Proofs.YtooebmpjmcmkoaaEng

/-- a row has come -/
def Lm.add (m : Lm) (l : List UInt8) : Lm := { m with fresh := m.fresh ++ [l], come := (m.come + 1) % 4294967296 }
theorem push_fresh {t : TypeId} {w w1 : World} {X F : Nat → Prop} {p : Nat} {m : Lm} {a : Option Addr} {c : Nat} {rv sv : Value} {vs us : List Value} {bs : List UInt8} {R : World → Prop} {E : PanW}
    (h : EndV t w X F p m sv (.slice a m.fresh.length c) vs us) (ht : t ≠ 31) (hl : m.fresh.length < 1099511627776) (hc : Chg NoS w w1) (hrow : RowIn w1 X rv bs)
    (hR : ∀ w', Acted t w X F p (m.add bs) w' → R w') :
    runV Try.prog (Builtin.append_ #[30, 30] 30 #[.slice a m.fresh.length c, .slice (some ⟨w1.heap.size, 0, none⟩) 1 1]) (w1.alloc (.cells #[rv] 31))
      (fun v w => ∃ a n c, v = .slice a n c ∧ wSome (some ⟨p, 0, none⟩) fun A => setW w (addK A 4) (.slice a n c) fun w => wSome (some ⟨p, 0, none⟩) fun A => ∃ x, w.cell? (addK A 3) = some (.int .u32 x) ∧
        wSome (some ⟨p, 0, none⟩) fun A => setW w (addK A 3) (.int .u32 (IntKind.wrap .u32 (x + 1))) R) E := by
  refine push_row h.fo h.fi hl hc hrow (fun k hk => h.fx k (h.fp k (.inr (.inr hk)))) ?_
  intro a' c' w3 ho3 hr3 hc3 hb3 hz3
  refine ⟨_, _, _, rfl, wSome_of rfl ?_⟩
  rw [addK_lit]
  have hp : ¬ tBlk (.slice a m.fresh.length c) p := h.fo.ne h.blk (Ne.symm ht)
  have hblk3 := hc3.blk h.blk hp
  refine setW_blk hblk3 (by simp [ecells]) rfl ?_
  intro w4 hb4 hc4 hz4
  refine wSome_of rfl ⟨m.come, by rw [addK_lit, cell_blk hb4]; rfl, wSome_of rfl ?_⟩
  rw [addK_lit]
  refine setW_blk hb4 (by simp [ecells]) rfl ?_
  intro w5 hb5 hc5 hz5
  have hw : IntKind.wrap .u32 ((m.come : Int) + 1) = (((m.come + 1) % 4294967296 : Nat) : Int) := by
    rw [IntKind.wrap_u32]; omega
  rw [hw] at hb5
  have hc45 : Chg (OnlyB p) w3 w5 := hc4.trans hc5
  have hp3 : ¬ tBlk (.slice a' (m.fresh.length + 1) c') p := ho3.ne hblk3 (Ne.symm ht)
  have hF : ∀ k, tBlk (.slice a m.fresh.length c) k → F k := fun k hk => h.fp k (.inr (.inr hk))
  have hcs := hc.size
  have hso3 := h.so.chg hc3 fun k hk hk' => h.dj k hk hk'
  refine hR w5 ⟨fun k => F k ∨ tBlk (.slice a' (m.fresh.length + 1) c') k, ⟨sv, .slice a' (m.fresh.length + 1) c', vs, us ++ [rv], hb5, ?_, ?_, ?_, ?_, ?_, fun k hk => .inr hk, ?_, ?_⟩, ?_, ?_⟩
  · exact hso3.chg hc45 fun k hk e => h.so.ne h.blk (Ne.symm ht) (by rw [show k = p from e] at hk; exact hk)
  · show OwnT w5 31 _ (m.fresh ++ [bs]).length _
    rw [List.length_append]
    exact ho3.chg hc45 fun k hk e => hp3 (by rw [show k = p from e] at hk; exact hk)
  · have hy : BRows w (orX X (fun k => F k ∨ tBlk (.slice a' (m.fresh.length + 1) c') k)) vs m.sent := by
      refine h.si.wide fun k hk hx => ?_
      rcases hx with hx | hx | hx
      · exact hx
      · exact h.fx k hx
      · rcases hb3 k hx with hx | hx
        · exact h.fx k (hF k hx)
        · omega
    exact (hy.chg hc3 fun k _ hk => .inl (h.fx k (hF k hk))).chg hc45 fun k _ e => .inl (h.fx k (h.fp k (.inl e)))
  · refine BRows.wide ?_ (BRows.chg hc45 ?_ hr3)
    · intro k _ hk
      rcases hk with hk | hk | hk
      · exact .inl hk
      · exact .inl (h.fx k hk)
      · exact .inr hk
    · intro k _ e
      exact .inl (h.fx k (h.fp k (.inl e)))
  · intro k hk
    rcases hk with hk | hk | hk
    · exact .inl (h.fp k (.inl hk))
    · exact .inl (h.fp k (.inr (.inl hk)))
    · exact .inr hk
  · intro k hk
    rw [hz5, hz4]
    rcases hk with hk | hk
    · exact Nat.lt_of_lt_of_le (h.fl k hk) hc3.size
    · exact ho3.lt hk
  · intro k hk hk'
    rcases hb3 k hk' with hx | hx
    · exact h.dj k hk hx
    · have := h.so.lt hk; omega
  · exact ((hc3.mono fun k _ hk => hF k hk).trans (hc45.mono fun k _ e => h.fp k (.inl e)))
  · intro k hk
    rcases hk with hk | hk
    · exact .inl hk
    · rcases hb3 k hk with hx | hx
      · exact .inl (hF k hx)
      · exact .inr (by omega)

/-- one act after the other -/
theorem Acted.after {t : TypeId} {w w1 w2 : World} {X F F1 : Nat → Prop} {p : Nat} {m2 : Lm} (hs : w.heap.size ≤ w1.heap.size) (hc : Chg F w w1) (hf : ∀ k, F1 k → F k ∨ w.heap.size ≤ k) (h : Acted t w1 (orX X F1) F1 p m2 w2) : Acted t w X F p m2 w2 := by
  obtain ⟨F2, he, hc2, hf2⟩ := h
  refine ⟨F2, he.wide (fun k _ hk => ?_) (fun k hk => .inr hk), hc.trans2 hc2 fun k hk hk' => ?_, fun k hk => ?_⟩
  · rcases hk with hk | hk
    · exact .inl (.inl hk)
    · exact .inr hk
  · rcases hf k hk' with h | h
    · exact h
    · omega
  · rcases hf2 k hk with h | h
    · exact hf k h
    · exact .inr (by omega)
/-- the first so many are got -/
theorem cut_sent {t : TypeId} {w : World} {X F : Nat → Prop} {p : Nat} {m : Lm} {a : Option Addr} {c g : Nat} {fv : Value} {vs us : List Value} {R : World → Prop}
    (h : EndV t w X F p m (.slice a m.sent.length c) fv vs us) (ht : t ≠ 31) {j : Nat} (hj : j ≤ m.sent.length)
    (hR : ∀ w', EndAt t w' X F p { m with sent := m.sent.drop j, got := g } → Chg (OnlyB p) w w' → w'.heap.size = w.heap.size → R w') :
    setW w ⟨p, 1, none⟩ (.slice (if c = j then a else a.map fun A => addK A (j * 1)) (m.sent.length - j) (c - j)) fun w => wSome (some ⟨p, 0, none⟩) fun A => setW w (addK A 2) (.int .u32 (g : Int)) R := by
  refine setW_blk h.blk (by simp [ecells]) rfl ?_
  intro w1 hb1 hc1 hz1
  refine wSome_of rfl ?_
  rw [addK_lit]
  refine setW_blk hb1 (by simp [ecells]) rfl ?_
  intro w2 hb2 hc2 hz2
  obtain ⟨ho, hk⟩ := h.so.cut hj
  have hl : (m.sent.drop j).length = m.sent.length - j := List.length_drop
  refine hR w2 ⟨_, fv, vs.drop j, us, h.part (m' := { m with sent := m.sent.drop j, got := g }) ht (hc1.trans hc2) hb2 ?_ (h.si.drop j) h.fo h.fi hk fun k hk => hk⟩ (hc1.trans hc2) (hz2.trans hz1)
  show OwnT w 31 _ (m.sent.drop j).length _
  rw [hl]
  exact ho

/-! ### what Take does, as data -/
def feed (first : Nat) : Nat → List (List UInt8) → Lm → Lm
  | _, [], m => m
  | i, l :: ls, m => feed first (i + 1) ls (if first + i = m.come then m.add l else m)
def Lm.heard (m : Lm) (d : Dgm) : Lm := if m.ep < d.ep then Lm.new d.ep else m
def Lm.acks (m : Lm) (come : Nat) : Lm := if m.got < come ∧ come ≤ m.got + m.sent.length then { m with sent := m.sent.drop (come - m.got), got := come } else m
def Lm.hear (m : Lm) (d : Dgm) : Lm := if d.ep < m.ep then m else feed d.first 0 d.ls ((m.heard d).acks d.come)
def opened (bs : List UInt8) : Int × List UInt8 := if bs.length < 4 then (51, []) else match bs.drop (bs.length - 4) with
  | [x, y, z, u] => if S.opens (bs.take (bs.length - 4)) x y z u = true then (0, bs.take (bs.length - 4)) else (50, [])
  | _ => (50, [])
def Lm.take (m : Lm) (bs : List UInt8) : Int × Lm := if (opened bs).1 ≠ 0 then ((opened bs).1, m) else if (opened bs).2.length < 14 then (51, m) else match parse (opened bs).2 with
  | none => (70, m)
  | some d => (0, m.hear d)
theorem opened_of {ds : List UInt8} {x y z u : UInt8} : opened (ds ++ [x, y, z, u]) = if S.opens ds x y z u = true then (0, ds) else (50, []) := by
  have h1 : (ds ++ [x, y, z, u]).length - 4 = ds.length := by simp
  unfold opened
  rw [if_neg (by simp), h1, List.drop_left, List.take_left]
structure Lm.wf (m : Lm) : Prop where
  ep : m.ep < 4294967296
  got : m.got < 4294967296
  come : m.come < 4294967296
  sent : m.sent.length ≤ 4096
  rows : ∀ l ∈ m.sent, l.length ≤ 8192
/-- what a sealed row opens to -/
def OpEnd (w : World) (bs : List UInt8) (v : Value) (w' : World) : Prop := Chg NoS w w' ∧ ∃ a c, v = .tuple #[.slice a (opened bs).2.length c, .int .i64 (opened bs).1] ∧ ∀ X : Nat → Prop, (∀ k, w.heap.size ≤ k → ¬ X k) → RowIn w' X (.slice a (opened bs).2.length c) (opened bs).2
theorem open_any {w : World} {a : Option Addr} {n c : Nat} {bs : List UInt8} (k : Nat) (hn : bs.length = n) (hc : n ≤ c) (hr : Reads w a (vals bs)) (hl : n ≤ 1099511627776)
    (h1 : ∀ {w : World} {a : Option Addr} {n c : Nat}, n < 4 → Calls Try.prog k #[.slice a n c] w (endW (fun v w' => v = .tuple #[.slice none 0 0, .int .i64 51] ∧ w' = w) (fun _ _ => False)))
    (h2 : ∀ {w : World} {a : Option Addr} {n c : Nat} {ds : List UInt8} {x y z u : UInt8}, ds.length + 4 = n → n ≤ c → Reads w a (vals (ds ++ [x, y, z, u])) → n ≤ 9223372036854775803 → (S.opens ds x y z u = true → n ≤ 140737488355328) → Calls Try.prog k #[.slice a n c] w (endW (S.OpenEnd w ds.length ds x y z u) (fun _ _ => False))) :
    Calls Try.prog k #[.slice a n c] w (endW (OpEnd w bs) (fun _ _ => False)) := by
  have hnil : ∀ (w' : World) (X : Nat → Prop), RowIn w' X (.slice none 0 0) [] := fun w' X => ⟨none, 0, rfl, Nat.le_refl _, fun _ => rfl, fun j u hu => by simp [vals] at hu, fun A e => by cases e⟩
  by_cases h4 : n < 4
  · refine Calls.then (h1 h4) ?_
    rintro v w' ⟨rfl, rfl⟩
    have : opened bs = (51, []) := by unfold opened; rw [if_pos (by omega)]
    unfold OpEnd
    rw [this]
    exact ⟨Chg.refl _ _, none, 0, rfl, fun X _ => hnil _ _⟩
  obtain ⟨ds, x, y, z, u, rfl, hd⟩ := S.last4 (bs := bs) (by omega)
  refine Calls.then (h2 (by omega) hc hr (by omega) (fun _ => by omega)) ?_
  intro v w' h
  unfold OpEnd
  rw [opened_of]
  unfold S.OpenEnd at h
  by_cases ho : S.opens ds x y z u = true
  · rw [if_pos ho] at h ⊢
    obtain ⟨a', c', rfl, ho', hc'⟩ := h
    exact ⟨hc', a', c', rfl, fun X hX => (row_out ho' hX).2⟩
  · rw [if_neg ho] at h ⊢
    obtain ⟨rfl, hc'⟩ := h
    exact ⟨hc', none, 0, rfl, fun X _ => hnil _ _⟩
theorem pOpen {w : World} {a : Option Addr} {n c : Nat} {bs : List UInt8} (hn : bs.length = n) (hc : n ≤ c) (hr : Reads w a (vals bs)) (hl : n ≤ 1099511627776) : Calls Try.prog 32 #[.slice a n c] w (endW (OpEnd w bs) (fun _ _ => False)) :=
  open_any 32 hn hc hr hl S.Open_short fun h1 h2 h3 h4 h5 => S.Open_ok h1 h2 h3 (by omega) h5
theorem rOpen {w : World} {a : Option Addr} {n c : Nat} {bs : List UInt8} (hn : bs.length = n) (hc : n ≤ c) (hr : Reads w a (vals bs)) (hl : n ≤ 1099511627776) : Calls Try.prog 39 #[.slice a n c] w (endW (OpEnd w bs) (fun _ _ => False)) :=
  open_any 39 hn hc hr hl S.rOpen_short fun h1 h2 h3 h4 h5 => S.rOpen_ok h1 h2 h3 h4 h5
end Go.Proofs.Ytooebmpjmcmkoaa.B
