/-
  Counts: names as queries; a policy's queries laid down.
-/
import Derived.Test.YtaomfaehgbgdgaaCntH
set_option maxRecDepth 100000
set_option linter.unusedVariables false
set_option linter.unusedSimpArgs false
namespace Go.Proofs.Ytaomfaehgbgdgaa.B
open Go Go.Proofs Go.Proofs.YtaomfaehgbgdgaaEng

def qcells (s : ByteArray) : List Value := [.string s, .int .i8 0, .int .i8 0, .int .u64 0, .slice none 0 0]
def flatQ (l : List ByteArray) : List Value := l.flatMap qcells
theorem flatQ_length : ∀ l : List ByteArray, (flatQ l).length = l.length * 5
  | [] => rfl
  | s :: l => by
    have := flatQ_length l
    unfold flatQ at this ⊢
    rw [List.flatMap_cons, List.length_append, this, List.length_cons]
    show 5 + _ = _
    omega
theorem flatQ_append (a b : List ByteArray) : flatQ (a ++ b) = flatQ a ++ flatQ b := by simp [flatQ]
theorem flatQ_get : ∀ (l : List ByteArray) (j i : Nat) (s : ByteArray), l[j]? = some s → i < 5 → (flatQ l)[j * 5 + i]? = (qcells s)[i]?
  | [], j, i, s, h, _ => by simp at h
  | x :: l, 0, i, s, h, hi => by
    simp only [List.getElem?_cons_zero, Option.some.injEq] at h
    subst h
    unfold flatQ
    rw [List.flatMap_cons, List.getElem?_append_left (by simp [qcells]; omega)]
    congr 1
    omega
  | x :: l, j + 1, i, s, h, hi => by
    simp only [List.getElem?_cons_succ] at h
    have := flatQ_get l j i s h hi
    unfold flatQ at this ⊢
    rw [List.flatMap_cons, List.getElem?_append_right (by simp [qcells]; omega), ← this]
    congr 1
    simp [qcells]
    omega
theorem flatQ_one (l : List ByteArray) : ∀ u ∈ flatQ l, u.oneCell' = true := by
  intro u hu
  obtain ⟨s, _, hs⟩ := List.mem_flatMap.1 hu
  simp only [qcells, List.mem_cons, List.not_mem_nil, or_false] at hs
  rcases hs with rfl | rfl | rfl | rfl | rfl <;> rfl
theorem names_get {l : List ByteArray} {j : Nat} (h : j < l.length) : (names8 l)[j]? = some (.string l[j]) := by
  unfold names8
  rw [List.getElem?_map, List.getElem?_eq_getElem h]
  rfl
theorem names_one (l : List ByteArray) : ∀ u ∈ names8 l, u.oneCell' = true := by
  intro u hu
  obtain ⟨s, _, rfl⟩ := List.mem_map.1 hu
  rfl
theorem names_append (a b : List ByteArray) : names8 (a ++ b) = names8 a ++ names8 b := by simp [names8]
theorem info51 : (Try.prog.info? 51).map (fun i => (i.zero, i.size, i.bytes)) = some (some (.agg #[.string { data := #[] }, .int .i8 0, .int .i8 0, .int .u64 0, .slice none 0 0]), 5, 56) := by kernel_rfl
theorem info9 : (Try.prog.info? 9).map (fun i => (i.zero, i.size, i.bytes)) = some (some (.string { data := #[] }), 1, 16) := by kernel_rfl
theorem own_none {w : World} {base n c : Nat} {a : Option Addr} {xs : List Value} {e : TypeId} {size : Nat} (ho : w.ownsRow base e size (.slice a n c) n xs) {w' : World} (hc : Chg NoS w w') : w'.ownsRow base e size (.slice a n c) n xs := own_of_chg ho hc (fun _ _ x => x)
theorem chg_own {w0 w w' : World} {base n c : Nat} {a : Option Addr} {xs : List Value} {e : TypeId} {size : Nat} (hc : Chg NoS w0 w) (hb : w0.heap.size ≤ base) (ho : w.ownsRow base e size (.slice a n c) n xs) (h : Chg (fun k => (Value.slice a n c).ownBlock = some k) w w') : Chg NoS w0 w' :=
  hc.trans2 h fun k hk e => by have := (own_lt' ho e).2; omega
/-- names as queries -/
theorem Queries_ok {w : World} {a : Option Addr} {n c : Nat} {l : List ByteArray} (hr : Reads w a (names8 l)) (hn : n = l.length) (hb : n ≤ 1048576) :
    Calls Try.prog 7 #[.slice a n c] w (endW (fun v w' => ∃ a' c', v = .slice a' n c' ∧ w'.ownsRow w.heap.size 51 5 (.slice a' n c') n (flatQ l) ∧ Chg NoS w w') (fun _ _ => False)) := by
  refine F7_calls a n c ?_
  delta F7
  refine ⟨fun s w1 => ∃ j : Nat, s.2.2.2 = j ∧ j ≤ n ∧ s.2.1 = j ∧ w1.ownsRow w.heap.size 51 5 (.slice s.1 s.2.1 s.2.2.1) s.2.1 (flatQ (l.take j)) ∧ Chg NoS w w1, fun s _ => (n - s.2.2.2).toNat,
    ⟨(none, 0, 0, 0), ⟨rfl, rfl, trivial⟩, 0, rfl, by omega, rfl, own_nil' _ _ _ _, Chg.refl _ _⟩, ?_⟩
  rintro ⟨la, ln, lc, i⟩ w1 ⟨j, hi, hj, hln, ho, c1⟩ _
  dsimp only at hi hln ho ⊢
  subst hi
  subst hln
  by_cases hlt : (ln : Int) < n
  · rw [if_pos (by simpa using hlt)]
    have hjl : ln < l.length := by omega
    obtain ⟨A, hA, hc⟩ := (hr.chg c1 fun _ _ x => x) ln _ (names_get hjl)
    refine ⟨by omega, by omega, wSome_of hA ⟨_, (by rw [Int.toNat_natCast, Nat.mul_one]; exact hc), ?_⟩⟩
    have b2 := blk_alloc w1 (.cells #[.string l[ln], .int .i8 0, .int .i8 0, .int .u64 0, .slice none 0 0] 51)
    have c2 := chg_alloc w1 (.cells #[.string l[ln], .int .i8 0, .int .i8 0, .int .u64 0, .slice none 0 0] 51) NoS
    generalize w1.alloc (.cells #[.string l[ln], .int .i8 0, .int .i8 0, .int .u64 0, .slice none 0 0] 51) = w2 at *
    have s1 := c1.size
    have s2 := c2.size
    refine row_append (base := w.heap.size) (news := qcells l[ln]) Try.underlying29 Try.underlying29 info51 rfl (own_none ho c2) rfl (reads_lit b2) (fun e => by cases e) (by intro u hu; exact flatQ_one [l[ln]] u (by simpa [flatQ] using hu)) (by omega) (by omega) (by omega) ?_
    intro a3 c3 w3 ho3 hc3 _
    refine ⟨_, _, _, rfl, (a3, ln + 1, c3, (ln : Int) + 1), ⟨rfl, by rw [i64w _ (by omega) (by omega)], trivial⟩, ⟨ln + 1, by dsimp only; omega, by omega, rfl, ?_, chg_own (c1.trans c2) (Nat.le_refl _) (own_none ho c2) hc3⟩, by dsimp only; omega⟩
    rw [take_snoc hjl, flatQ_append]
    simpa [flatQ] using ho3
  · rw [if_neg (by simpa using hlt)]
    have hln : ln = n := by omega
    subst hln
    rw [List.take_of_length_le (by omega)] at ho
    exact ⟨la, lc, rfl, ho, c1⟩
theorem min_run {x : Nat} {w : World} {K : Value → World → Prop} {E : PanW} (hx : x ≤ 9223372036854775807) (hK : K (.int .i64 (min x 32 : Nat)) w) : runV Try.prog (Builtin.min_ #[3, 3] 3 #[.int .i64 (x : Int), .int .i64 32]) w K E := by
  have hrun : (Builtin.min_ #[3, 3] 3 #[.int .i64 (x : Int), .int .i64 32]).run Try.prog w = .ok (.int .i64 (min x 32 : Nat)) w := by
    have h1 : (Builtin.min_ #[3, 3] 3 #[.int .i64 (x : Int), .int .i64 32]).run Try.prog w = .ok (.int .i64 (if (32 : Int) < x then 32 else x)) w := rfl
    rw [h1]
    congr 2
    by_cases h : (32 : Int) < x
    · rw [if_pos h]; omega
    · rw [if_neg h]; omega
  exact runV_of_ok hrun hK
theorem check3 (w : World) (em : Bool) (k : Int) : (Instr.checkKey em 10000 3 (.int .i64 k)).run Try.prog w = .ok () w := MapKept.run_checkKey (k := .int .i64 k) Try.underlying3 (by simp [MapKept.IsKey]) em 9999
/-- a version's names are laid down, the first time -/
theorem put_names {w : World} {b r q : Nat} {L : List En} {W G : Nat → Prop} {key : Int} {a : Option Addr} {n c : Nat} {l : List ByteArray} {K : World → Prop} {E : PanW} (h : Warm w b r q L [] W G) (hk : 1 ≤ key ∧ key ≤ 4094) (hl : l.length ≤ 32) (hn : n = l.length) (hr : Reads w a (names8 l)) (ha : ∀ A, a = some A → ¬ W A.block ∧ A.block < w.heap.size)
    (hK : ∀ w' born, Warm w' b r q L [⟨key, a, n, c, l, born⟩] W (fun k => G k ∨ ∃ A, a = some A ∧ A.block = k) → Chg (OnlyB q) w w' → K w') : runU Try.prog (Instr.mapUpdate 67 (.map (some q)) (.int .i64 key) (.agg #[.slice a n c])) w K E := by
  obtain ⟨cl, h1, hc⟩ := h.vers
  have hf : (Instr.findKey 3 (.int .i64 key) []).run Try.prog w = .ok none w := by
    simp [Instr.findKey, run_underlying Try.underlying3, Instr.findNow]
  have hrun : (Instr.mapUpdate 67 (.map (some q)) (.int .i64 key) (.agg #[.slice a n c])).run Try.prog w = .ok () { w with heap := w.heap.setIfInBounds q (.map (#[].push { key := .int .i64 key, val := .agg #[.slice a n c], born := cl }) (cl + 1)) } := by
    have h1' : w.heap[q]? = some (.map #[] cl) := h1
    simp [Instr.mapUpdate, run_underlying map67, MapKept.run_getObj_map h1', check3, hf, MapKept.run_setObj_map _ h1', Result.andThen]
  unfold runU
  rw [hrun]
  obtain ⟨m1, m2⟩ := map_set (es' := #[].push { key := .int .i64 key, val := .agg #[.slice a n c], born := cl }) (c' := cl + 1) h1
  generalize ({ w with heap := w.heap.setIfInBounds q (.map (#[].push { key := .int .i64 key, val := .agg #[.slice a n c], born := cl }) (cl + 1)) } : World) = w' at *
  have hne : ∀ x, x ≠ q → ¬ OnlyB q x := fun x hx e => hx e
  refine hK w' cl ⟨m2.blk h.bk (hne b h.nbq), h.fb, h.wr, h.wq, h.nbr, h.nbq, h.nrq, fun x hx => ?_, fun x hx hg => ?_, ?_, fun e he => ?_, h.nd1, h.nd2, h.nd3, ⟨cl + 1, m1, fun v hv => ?_⟩, fun v hv => ?_, by simp, by simp⟩ m2
  · rcases hx with hx | hx | ⟨A, hA, rfl⟩
    · exact Nat.lt_of_lt_of_le (h.lt x (.inl hx)) m2.size
    · exact Nat.lt_of_lt_of_le (h.lt x (.inr hx)) m2.size
    · exact Nat.lt_of_lt_of_le (ha A hA).2 m2.size
  · rcases hg with hg | ⟨A, hA, rfl⟩
    · exact h.dis x hx hg
    · exact (ha A hA).1 hx
  · obtain ⟨c', g1, g2⟩ := h.sums
    exact ⟨c', m2.blk g1 (hne r h.nrq), g2⟩
  · obtain ⟨g1, g2, g3, g4, g5, g6, g7⟩ := h.ent e he
    exact ⟨g1, g2.keep m2 (hne _ g7), g3, g4, g5, g6, g7⟩
  · rw [List.mem_singleton.1 hv]; exact Nat.lt_succ_self cl
  · rw [List.mem_singleton.1 hv]
    refine ⟨hr.chg m2 fun A hA e => ?_, hn, fun A hA => .inr ⟨A, hA, rfl⟩, hk.1, hk.2, hl⟩
    have e' : A.block = q := e
    exact (ha A hA).1 (e' ▸ h.wq)
/-- a policy's queries are laid down, the first time -/
theorem Policy_ok {w : World} {b : Nat} {L : List En} {W G : Nat → Prop} (h : Book w b L [] W G) {key : Int} (hk : 1 ≤ key ∧ key ≤ 4094) {a : Option Addr} {n c : Nat} {l : List ByteArray} (hr : Reads w a (flatQ l)) (hn : n = l.length) (hnc : n ≤ c) (hc : c ≤ 9223372036854775807) :
    Calls Try.prog 6 #[.pointer (some ⟨b, 0, none⟩), .int .i64 key, .slice a n c] w (endW (fun v w' => v = .tuple #[] ∧ ∃ W' G' r q ve, Warm w' b r q L [ve] W' G' ∧ ve.key = key ∧ ve.names = l.take 32 ∧ Chg W w w' ∧ (∀ k, W k → W' k) ∧ (∀ k, W' k → W k ∨ w.heap.size ≤ k) ∧ (∀ k, G' k → G k ∨ w.heap.size ≤ k) ∧ (∀ k, G k → G' k)) (fun _ _ => False)) := by
  refine F6_calls (some ⟨b, 0, none⟩) key a n c ?_
  delta F6
  refine ⟨fun _ w1 => w1 = w, ?_, ?_⟩
  rotate_left
  · rw [if_pos (by simp), if_pos (by simp; omega), if_neg (by simp; omega)]
    exact ⟨(), trivial, rfl⟩
  rintro _ w1 rfl _
  refine min_run (by omega) ⟨_, rfl, by omega, by omega, ?_⟩
  rw [Int.toNat_natCast, Nat.sub_zero]
  refine ⟨fun s w2 => ∃ j : Nat, s.2.2.2 = j ∧ j ≤ min n 32 ∧ s.2.1 = j ∧ w2.ownsRow w1.heap.size 9 1 (.slice s.1 s.2.1 s.2.2.1) s.2.1 (names8 (l.take j)) ∧ Chg NoS w1 w2, fun s _ => (min n 32 - s.2.2.2).toNat,
    ⟨(none, 0, 0, 0), ⟨rfl, rfl, trivial⟩, 0, rfl, by omega, rfl, own_nil' _ _ _ _, Chg.refl _ _⟩, ?_⟩
  rintro ⟨la, ln, lc, i⟩ w2 ⟨j, hi, hj, hln, ho, c2⟩ _
  dsimp only at hi hln ho ⊢
  subst hi
  subst hln
  have s2 := c2.size
  by_cases hlt : (ln : Int) < (min n 32 : Nat)
  · rw [if_pos (by simpa using hlt)]
    have hjl : ln < l.length := by omega
    have hr2 := hr.chg c2 fun _ _ x => x
    have g : ∀ i v, (qcells l[ln])[i]? = some v → i < 5 → ∃ A, a = some A ∧ w2.cell? (addK A (ln * 5 + i)) = some v := fun i v hv hi => hr2 _ _ (by rw [flatQ_get l ln i _ (List.getElem?_eq_getElem hjl) hi]; exact hv)
    obtain ⟨A, hA, g0⟩ := g 0 _ rfl (by omega)
    obtain ⟨A1, e1, g1⟩ := g 1 _ rfl (by omega)
    obtain ⟨A2, e2, g2⟩ := g 2 _ rfl (by omega)
    obtain ⟨A3, e3, g3⟩ := g 3 _ rfl (by omega)
    obtain ⟨A4, e4, g4⟩ := g 4 _ rfl (by omega)
    rw [hA] at e1 e2 e3 e4
    cases e1; cases e2; cases e3; cases e4
    have ek : ∀ i, addK (addK A (ln * 5)) i = addK A (ln * 5 + i) := fun i => addK_addK _ _ _
    refine ⟨by omega, by omega, wSome_of (A := A) ((cut0 a c).trans hA) ?_⟩
    rw [Int.toNat_natCast]
    refine ⟨_, by rw [ek]; exact g0, _, by rw [ek]; exact g1, _, by rw [ek]; exact g2, _, by rw [ek]; exact g3, _, _, _, by rw [ek]; exact g4, ?_⟩
    refine (sets_blk (vs := qcells l[ln]) (blk_alloc w2 (.cells #[.string { data := #[] }, .int .i8 0, .int .i8 0, .int .u64 0, .slice none 0 0] 51)) rfl (by simp [qcells, oneC]) fun w5 b5 c5 z5 => ?_ : setsW _ _ _ _ _)
    have ca := chg_alloc w2 (.cells #[.string { data := #[] }, .int .i8 0, .int .i8 0, .int .u64 0, .slice none 0 0] 51) NoS
    have c25 : Chg NoS w2 w5 := ca.trans2 c5 fun k hk e => by have : k = w2.heap.size := e; omega
    refine ⟨_, (show w5.cell? (addK ⟨w2.heap.size, 0, none⟩ 0) = some (.string l[ln]) by rw [addK_zero, cell_blk b5]; rfl), ?_⟩
    have b6 := blk_alloc w5 (.cells #[.string l[ln]] 9)
    have c6 := chg_alloc w5 (.cells #[.string l[ln]] 9) NoS
    generalize w5.alloc (.cells #[.string l[ln]] 9) = w6 at *
    have c26 := c25.trans c6
    have s26 := c26.size
    refine row_append (base := w1.heap.size) (news := names8 [l[ln]]) Try.underlying22 Try.underlying22 info9 rfl (own_none ho c26) rfl (reads_lit b6) (fun e => by cases e) (names_one _) (by omega) (by omega) (by omega) ?_
    intro a3 c3 w3 ho3 hc3 _
    refine ⟨_, _, _, rfl, (a3, ln + 1, c3, (ln : Int) + 1), ⟨rfl, by rw [i64w _ (by omega) (by omega)], trivial⟩, ⟨ln + 1, by dsimp only; omega, by omega, rfl, ?_, chg_own (c2.trans c26) (Nat.le_refl _) (own_none ho c26) hc3⟩, by dsimp only; omega⟩
    rw [take_snoc hjl, names_append]
    exact ho3
  · rw [if_neg (by simpa using hlt)]
    have hlen : ln = min n 32 := by omega
    have hb2 := h.keep c2 fun _ _ x => x
    refine Calls.then (Ready_ok hb2) ?_
    rintro v w3 ⟨rfl, W3, r, q, h3, c3, u3, v3⟩
    refine ⟨_, rfl, ?_⟩
    rw [wSome_some']
    refine ⟨_, rdBk4 h3, ?_⟩
    have hnl : ∀ {k : Nat}, (Value.slice la ln lc).ownBlock = some k → k < w2.heap.size ∧ w1.heap.size ≤ k := fun e => own_lt' ho e
    have ho3 := own_of_chg ho c3 fun k hk e => by have := (hnl hk).2; have := h.lt k (.inl e); omega
    have htl : l.take ln = l.take 32 := by
      rcases Nat.le_total l.length 32 with hle | hle
      · rw [List.take_of_length_le (by omega), List.take_of_length_le hle]
      · rw [show ln = 32 from by omega]
    have hlen2 : (l.take ln).length = ln := by rw [List.length_take]; omega
    refine put_names h3 hk (l := l.take ln) (by omega) hlen2.symm (own_reads' ho3) (fun A hA => ?_) fun w4 born h4 c4 => ?_
    · subst hA
      have hA1 := hnl (k := A.block) rfl
      have s3 := c3.size
      exact ⟨fun hw => (v3 _ hw).elim (fun hw => by have := h.lt _ (.inl hw); omega) fun hw => by omega, by omega⟩
    · refine ⟨rfl, W3, _, r, q, _, h4, rfl, htl, ?_, u3, fun k hk => (v3 k hk).elim .inl fun hk => .inr (by omega), fun k hk => ?_, fun k hk => .inl hk⟩
      · exact (c2.mono fun _ _ x => x.elim).trans2 c3 (fun x hx e => e) |>.trans2 c4 fun x hx e => (v3 x (by have e' : x = q := e; subst e'; exact h3.wq)).elim id fun hh => by omega
      · rcases hk with hk | ⟨A, hA, rfl⟩
        · exact .inl hk
        · subst hA
          exact .inr (hnl (k := A.block) rfl).2
end Go.Proofs.Ytaomfaehgbgdgaa.B
