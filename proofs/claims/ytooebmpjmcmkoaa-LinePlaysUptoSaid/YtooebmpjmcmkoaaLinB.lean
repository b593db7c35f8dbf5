/-
  line: Send, the program's and the document's.
-/
import Derived.Test.YtooebmpjmcmkoaaLinA
set_option maxRecDepth 100000
set_option linter.unusedVariables false
set_option linter.unusedSimpArgs false
namespace Go.Proofs.Ytooebmpjmcmkoaa.B
open Go Go.Proofs Go.Proofs.YtooebmpjmcmkoaaEng

theorem row_out {w0 w1 : World} {X : Nat → Prop} {a : Option Addr} {n c : Nat} {bs : List UInt8} (h : S.Out w0 w1 a n c bs) (hX : ∀ k, w0.heap.size ≤ k → ¬ X k) : bs.length = n ∧ RowIn w1 X (.slice a n c) bs := by
  obtain ⟨h1, h2, h3, h4, h5⟩ := own_reads_v h
  refine ⟨h2, a, c, by rw [h2], by omega, fun e => by rw [h2]; exact h3 e, h1, fun A e _ => ?_⟩
  subst e
  exact hX _ (own_lt' h (k := A.block) rfl).2
theorem nos {S : Nat → Prop} : ∀ k, NoS k → S k := fun k h => h.elim

theorem EndV.len {t : TypeId} {w : World} {X F : Nat → Prop} {p : Nat} {m : Lm} {sv fv : Value} {vs us : List Value} (h : EndV t w X F p m sv fv vs us) : ∃ a c, sv = .slice a m.sent.length c := by
  obtain ⟨a, c, e, _⟩ := h.so.form
  exact ⟨a, c, e⟩
/-- a row is appended to one of the two lists of an end: where the list lies then -/
theorem push_row {w w1 : World} {X : Nat → Prop} {a : Option Addr} {c n : Nat} {vs : List Value} {ls : List (List UInt8)} {rv : Value} {bs : List UInt8} {K : Value → World → Prop} {E : PanW}
    (hs : OwnT w 31 (.slice a n c) n vs) (hsi : BRows w X vs ls) (hl : n < 1099511627776) (hc : Chg NoS w w1) (hrow : RowIn w1 X rv bs) (hX : ∀ k, tBlk (.slice a n c) k → X k)
    (hK : ∀ a' c' w3, OwnT w3 31 (.slice a' (n + 1) c') (n + 1) (vs ++ [rv]) → BRows w3 (orX X (tBlk (.slice a' (n + 1) c'))) (vs ++ [rv]) (ls ++ [bs]) → Chg (tBlk (.slice a n c)) w w3 →
      (∀ k, tBlk (.slice a' (n + 1) c') k → tBlk (.slice a n c) k ∨ w1.heap.size < k) → w1.heap.size < w3.heap.size → K (.slice a' (n + 1) c') w3) :
    runV Try.prog (Builtin.append_ #[30, 30] 30 #[.slice a n c, .slice (some ⟨w1.heap.size, 0, none⟩) 1 1]) (w1.alloc (.cells #[rv] 31)) K E := by
  have hc2 : Chg NoS w (w1.alloc (.cells #[rv] 31)) := hc.trans (chg_alloc _ _ _)
  have hrow2 : RowIn (w1.alloc (.cells #[rv] 31)) X rv bs := hrow.chg (chg_alloc _ _ NoS) (fun k _ h => h.elim)
  have hs2 := hs.chg hc2 (fun k _ h => h)
  have hsi2 := hsi.chg hc2 (fun k _ h => h.elim)
  have hsz := size_alloc w1 (.cells #[rv] 31)
  generalize hw2 : w1.alloc (.cells #[rv] 31) = w2 at hc2 hrow2 hs2 hsi2 hsz
  have hlit : Reads w2 (some ⟨w1.heap.size, 0, none⟩) [rv] := by
    rw [← hw2]
    exact reads_lit (blk_alloc w1 (.cells #[rv] 31))
  refine tail_append (z := .slice none 0 0) (bytes := 24) und30 und30 info31 rfl hs2 rfl hlit (by omega) (by simp) (fun u hu => by simp at hu; subst hu; exact hrow.one) (by omega) (by omega) ?_
  intro a' c' w3 ho3 hc3 hb3
  have hY : ∀ k, k < w2.heap.size → orX X (tBlk (.slice a' (n + 1) c')) k → X k := fun k hk hx => by
    rcases hx with hx | hx
    · exact hx
    · rcases hb3 k hx with h | h
      · exact hX k h
      · omega
  refine hK a' c' w3 ho3 ?_ ((hc2.mono fun k _ h => h.elim).trans hc3) (fun k hk => ?_) (by have := hc3.size; omega)
  · exact ((hsi2.append (show BRows w2 X [rv] [bs] from ⟨hrow2, trivial⟩)).wide hY).chg hc3 (fun k _ hk => .inl (hX k hk))
  · rcases hb3 k hk with h | h
    · exact .inl h
    · exact .inr (by omega)

/-- a row is appended to what was sent -/
theorem push_sent {t : TypeId} {w w1 : World} {X F : Nat → Prop} {p : Nat} {m : Lm} {a : Option Addr} {c : Nat} {rv fv : Value} {vs us : List Value} {bs : List UInt8} {R : World → Prop} {E : PanW}
    (h : EndV t w X F p m (.slice a m.sent.length c) fv vs us) (ht : t ≠ 31) (hl : m.sent.length < 1099511627776) (hc : Chg NoS w w1) (hrow : RowIn w1 X rv bs)
    (hR : ∀ w', Acted t w X F p { m with sent := m.sent ++ [bs] } w' → R w') :
    runV Try.prog (Builtin.append_ #[30, 30] 30 #[.slice a m.sent.length c, .slice (some ⟨w1.heap.size, 0, none⟩) 1 1]) (w1.alloc (.cells #[rv] 31))
      (fun v w => ∃ a n c, v = .slice a n c ∧ wSome (some ⟨p, 0, none⟩) fun A => setW w (addK A 1) (.slice a n c) fun w => R w) E := by
  refine push_row h.so h.si hl hc hrow (fun k hk => h.fx k (h.fp k (.inr (.inl hk)))) ?_
  intro a' c' w3 ho3 hr3 hc3 hb3 hz3
  refine ⟨_, _, _, rfl, wSome_of rfl ?_⟩
  rw [addK_lit]
  have hp : ¬ tBlk (.slice a m.sent.length c) p := h.so.ne h.blk (Ne.symm ht)
  have hblk3 := hc3.blk h.blk hp
  refine setW_blk hblk3 (by simp [ecells]) rfl ?_
  intro w4 hb4 hc4 hz4
  have hp3 : ¬ tBlk (.slice a' (m.sent.length + 1) c') p := ho3.ne hblk3 (Ne.symm ht)
  have hF : ∀ k, tBlk (.slice a m.sent.length c) k → F k := fun k hk => h.fp k (.inr (.inl hk))
  have hcs := hc.size
  have hfo3 := h.fo.chg hc3 fun k hk hk' => h.dj k hk' hk
  refine hR w4 ⟨fun k => F k ∨ tBlk (.slice a' (m.sent.length + 1) c') k, ⟨.slice a' (m.sent.length + 1) c', fv, vs ++ [rv], us, hb4, ?_, ?_, ?_, ?_, ?_, fun k hk => .inr hk, ?_, ?_⟩, ?_, ?_⟩
  · show OwnT w4 31 _ (m.sent ++ [bs]).length _
    rw [List.length_append]
    exact ho3.chg hc4 fun k hk e => hp3 (by rw [show k = p from e] at hk; exact hk)
  · exact hfo3.chg hc4 fun k hk e => h.fo.ne h.blk (Ne.symm ht) (by rw [show k = p from e] at hk; exact hk)
  · refine BRows.wide ?_ (BRows.chg hc4 ?_ hr3)
    · intro k _ hk
      rcases hk with hk | hk | hk
      · exact .inl hk
      · exact .inl (h.fx k hk)
      · exact .inr hk
    · intro k _ e
      exact .inl (h.fx k (h.fp k (.inl e)))
  · have hy : BRows w (orX X (fun k => F k ∨ tBlk (.slice a' (m.sent.length + 1) c') k)) us m.fresh := by
      refine h.fi.wide fun k hk hx => ?_
      rcases hx with hx | hx | hx
      · exact hx
      · exact h.fx k hx
      · rcases hb3 k hx with hx | hx
        · exact h.fx k (hF k hx)
        · omega
    exact (hy.chg hc3 fun k _ hk => .inl (h.fx k (hF k hk))).chg hc4 fun k _ e => .inl (h.fx k (h.fp k (.inl e)))
  · intro k hk
    rcases hk with hk | hk | hk
    · exact .inl (h.fp k (.inl hk))
    · exact .inr hk
    · exact .inl (h.fp k (.inr (.inr hk)))
  · intro k hk
    rw [hz4]
    rcases hk with hk | hk
    · exact Nat.lt_of_lt_of_le (h.fl k hk) hc3.size
    · exact ho3.lt hk
  · intro k hk hk'
    rcases hb3 k hk with hx | hx
    · exact h.dj k hx hk'
    · have := h.fo.lt hk'; omega
  · exact ((hc3.mono fun k _ hk => hF k hk).trans (hc4.mono fun k _ e => h.fp k (.inl e)))
  · intro k hk
    rcases hk with hk | hk
    · exact .inl hk
    · rcases hb3 k hk with hx | hx
      · exact .inl (hF k hx)
      · exact .inr (by omega)

/-- what Send answers -/
def SendEnd (t : TypeId) (w : World) (X F : Nat → Prop) (p : Nat) (m : Lm) (bs : List UInt8) (v : Value) (w' : World) : Prop := v = .int .i64 (m.send bs).1 ∧ Acted t w X F p (m.send bs).2 w'
theorem Acted.same {t : TypeId} {w : World} {X F : Nat → Prop} {p : Nat} {m : Lm} (h : EndAt t w X F p m) : Acted t w X F p m w :=
  ⟨F, h.wide (fun k _ hk => hk.elim id fun hk => by obtain ⟨_, _, _, _, h⟩ := h; exact h.fx k hk) (fun k hk => .inr hk), Chg.refl _ _, fun k hk => .inl hk⟩

theorem Send_ok {t : TypeId} {w : World} {X F : Nat → Prop} {p : Nat} {m : Lm} {a : Option Addr} {n c : Nat} {bs : List UInt8} (h : EndAt t w X F p m) (ht : t ≠ 31) (hl : m.sent.length < 1099511627776) (hX : ∀ k, X k → k < w.heap.size)
    (hn : bs.length = n) (hr : Reads w a (vals bs)) (h0 : a = none → n = 0) :
    Calls Try.prog 18 #[.pointer (some ⟨p, 0, none⟩), .slice a n c] w (endW (SendEnd t w X F p m bs) (fun _ _ => False)) := by
  refine F18_calls _ _ _ _ ?_
  delta F18
  have hA := Acted.same h
  obtain ⟨sv, fv, vs, us, h⟩ := h
  obtain ⟨av, cv, rfl⟩ := h.len
  rw [if_neg (by simp)]
  unfold SendEnd Lm.send
  by_cases h1 : 8192 < bs.length
  · rw [if_pos (by simp; omega), if_pos h1]
    exact ⟨rfl, hA⟩
  rw [if_neg (by simp; omega), if_neg h1]
  refine wSome_of rfl ⟨_, _, _, by rw [addK_lit]; exact (ecell h).2.1, ?_⟩
  by_cases h2 : 4096 ≤ m.sent.length
  · rw [if_pos (by simp; omega), if_pos h2]
    exact ⟨rfl, hA⟩
  rw [if_neg (by simp; omega), if_neg h2]
  refine wSome_of rfl ⟨_, _, _, by rw [addK_lit]; exact (ecell h).2.1, ?_⟩
  refine bytes_append (n := 0) (bs := []) (c := c) (base := w.heap.size) S.bT Try.underlying31 (own_nil' _ _ _ _) hn (hr.chg (chg_drew w NoS) (fun _ _ x => x)) h0 (by omega) (Nat.le_refl _) ?_
  intro a1 c1 w1 ho1 hc1 hb1
  simp only [Nat.zero_add, List.nil_append] at ho1 hb1 ⊢
  have hc1' : Chg NoS w.drew w1 := hc1.mono fun k _ e => by cases e
  refine ⟨_, _, _, rfl, hc1'.sameOld, (hc1'.trans (chg_alloc _ _ _)).sameOld, ?_⟩
  refine push_sent h ht hl ((chg_drew w NoS).trans hc1') (row_out (X := X) ho1 (fun k hk hx => by have := hX k hx; omega)).2 ?_
  intro w' hw'
  exact ⟨trivial, hw'⟩
theorem rSend_ok {t : TypeId} {w : World} {X F : Nat → Prop} {p : Nat} {m : Lm} {a : Option Addr} {n c : Nat} {bs : List UInt8} (h : EndAt t w X F p m) (ht : t ≠ 31) (hl : m.sent.length < 1099511627776) (hX : ∀ k, X k → k < w.heap.size)
    (hn : bs.length = n) (hr : Reads w a (vals bs)) (h0 : a = none → n = 0) :
    Calls Try.prog 27 #[.pointer (some ⟨p, 0, none⟩), .slice a n c] w (endW (SendEnd t w X F p m bs) (fun _ _ => False)) := by
  refine F27_calls _ _ _ _ ?_
  delta F27
  have hA := Acted.same h
  obtain ⟨sv, fv, vs, us, h⟩ := h
  obtain ⟨av, cv, rfl⟩ := h.len
  unfold SendEnd Lm.send
  by_cases h1 : 8192 < bs.length
  · rw [if_pos (by simp; omega), if_pos h1]
    exact ⟨rfl, hA⟩
  rw [if_neg (by simp; omega), if_neg h1]
  refine wSome_of rfl ⟨_, _, _, by rw [addK_lit]; exact (ecell h).2.1, ?_⟩
  by_cases h2 : 4096 ≤ m.sent.length
  · rw [if_pos (by simp; omega), if_pos h2]
    exact ⟨rfl, hA⟩
  rw [if_neg (by simp; omega), if_neg h2]
  refine wSome_of rfl ⟨_, _, _, by rw [addK_lit]; exact (ecell h).2.1, ?_⟩
  refine bytes_append (n := 0) (bs := []) (c := c) (base := w.heap.size) S.bT Try.underlying31 (own_nil' _ _ _ _) hn (hr.chg (chg_drew w NoS) (fun _ _ x => x)) h0 (by omega) (Nat.le_refl _) ?_
  intro a1 c1 w1 ho1 hc1 hb1
  simp only [Nat.zero_add, List.nil_append] at ho1 hb1 ⊢
  have hc1' : Chg NoS w.drew w1 := hc1.mono fun k _ e => by cases e
  refine ⟨_, _, _, rfl, hc1'.sameOld, (hc1'.trans (chg_alloc _ _ _)).sameOld, ?_⟩
  refine push_sent h ht hl ((chg_drew w NoS).trans hc1') (row_out (X := X) ho1 (fun k hk hx => by have := hX k hx; omega)).2 ?_
  intro w' hw'
  exact ⟨trivial, hw'⟩
end Go.Proofs.Ytooebmpjmcmkoaa.B
