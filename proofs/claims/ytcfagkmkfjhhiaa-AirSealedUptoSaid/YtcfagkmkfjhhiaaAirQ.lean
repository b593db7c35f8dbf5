/-
  AirSealed: an air beside rows that are sealed; what one changed byte does to a seal.
-/
import Derived.Test.YtcfagkmkfjhhiaaAirI
import Derived.Test.YtcfagkmkfjhhiaaAirG
import Derived.Test.YtcfagkmkfjhhiaaAirM
import Derived.Test.YtcfagkmkfjhhiaaAirN
import Derived.Test.YtcfagkmkfjhhiaaCrcE
set_option linter.unusedVariables false
set_option linter.unusedSimpArgs false
namespace Go.Proofs.Ytcfagkmkfjhhiaa.S
open Go Go.Proofs Go.Proofs.Ytcfagkmkfjhhiaa.B Go.Proofs.YtcfagkmkfjhhiaaCrc
open Go.Proofs.YtcfagkmkfjhhiaaEng hiding Calls.then

/-! ### the seal, one byte changed -/
theorem vals_inj : ∀ {xs ys : List UInt8}, vals xs = vals ys → xs = ys
  | [], [], _ => rfl
  | x :: xs, y :: ys, h => by
    simp only [vals, List.map_cons, List.cons.injEq] at h
    rw [u8_val_inj h.1, vals_inj (xs := xs) (ys := ys) h.2]
  | [], _ :: _, h => by simp [vals] at h
  | _ :: _, [], h => by simp [vals] at h
theorem run_set (e : BitVec 8) : ∀ (bs : List (BitVec 8)) (n : BitVec 32) (j : Nat) (x : BitVec 8), bs[j]? = some x → run n (bs.set j (x ^^^ e)) = run n bs ^^^ sts (8 * (bs.length - j)) (e.setWidth 32)
  | [], n, j, x, h => by simp at h
  | y :: bs, n, 0, x, h => by
    simp only [List.getElem?_cons_zero, Option.some.injEq] at h
    subst h
    rw [List.set_cons_zero, run_cons, run_cons]
    have h1 := bst_xor n 0#32 y e
    rw [BitVec.xor_zero] at h1
    have h2 : bst 0#32 e = sts 8 (e.setWidth 32) := by unfold bst; rw [BitVec.zero_xor]
    rw [h1, h2, run_xor, ← sts_add]
    congr 2
    simp
    omega
  | y :: bs, n, j + 1, x, h => by
    simp only [List.getElem?_cons_succ] at h
    rw [List.set_cons_succ, run_cons, run_cons, run_set e bs _ j x h]
    congr 2
    simp
/-- Does it open? -/
def good (xs : List UInt8) : Prop := run (BitVec.allOnes 32) (bv xs) = sts 32 (BitVec.allOnes 32)
theorem good_sealed (b : List UInt8) : good (sealed b) := by
  obtain ⟨x0, y0, z0, u0, hse, hso⟩ := opens_sealed b
  unfold good
  rw [hse, bv_append]
  exact (sealed_iff _ _ _ _ _).1 (of_decide_eq_true hso)
theorem bad_changed {b : List UInt8} {j : Nat} {y : UInt8} (h : (sealed b)[j]? = some y) : ¬ good ((sealed b).set j (y ^^^ 0x5a)) := by
  intro hg
  have h0 := good_sealed b
  unfold good at hg h0
  unfold bv at hg h0
  rw [List.map_set, show (y ^^^ 0x5a).toBitVec = y.toBitVec ^^^ 0x5a#8 from rfl, run_set 0x5a#8 ((sealed b).map UInt8.toBitVec) _ j y.toBitVec (by simp [h]), h0] at hg
  have h3 : sts (8 * (((sealed b).map UInt8.toBitVec).length - j)) ((0x5a#8).setWidth 32) = 0#32 := by
    have := congrArg (fun x => sts 32 (BitVec.allOnes 32) ^^^ x) hg
    rw [← BitVec.xor_assoc, BitVec.xor_self, BitVec.zero_xor] at this
    exact this
  exact sts_ne _ (by decide) h3
theorem Open_good {w : World} {a : Option Addr} {n c : Nat} {xs : List UInt8} (hn : xs.length = n) (h4 : 4 ≤ n) (hl : n ≤ 1099511627776) (hc : n ≤ c) (hr : Reads w a (vals xs)) :
    Calls Try.prog 20 #[.slice a n c] w (endW (fun v w' => ∃ a' n' c' e, v = .tuple #[.slice a' n' c', .int .i64 e] ∧ (e = 0 ↔ good xs) ∧ Chg NoS w w') (fun _ _ => False)) := by
  obtain ⟨ds, x, y, z, u, he, hd⟩ := last4 (bs := xs) (by omega)
  have hg : opens ds x y z u = true ↔ good xs := by
    unfold good opens
    rw [decide_eq_true_iff, he, bv_append]
    exact sealed_iff _ _ _ _ _
  rw [he] at hr
  refine Calls.then (Open_ok (by omega) hc hr (by omega) (fun _ => by omega)) ?_
  intro v w' h
  unfold OpenEnd at h
  split at h
  · rename_i ho
    obtain ⟨a', c', rfl, _, hc'⟩ := h
    exact ⟨_, _, _, _, rfl, ⟨fun _ => hg.1 ho, fun _ => rfl⟩, hc'⟩
  · rename_i ho
    obtain ⟨rfl, hc'⟩ := h
    exact ⟨_, _, _, _, rfl, ⟨fun e => (by cases e), fun g => absurd (hg.2 g) ho⟩, hc'⟩

/-! ### an air beside rows X -/
def J1 (w0 w : World) (X : Nat → Prop) (p : Nat) (ds cs : List Dg) : Prop := ∃ fp, AirSt w w0.heap.size p fp ds cs ∧ Chg NoS w0 w ∧ ∀ k, X k → (w0.heap.size ≤ k ∧ k < w.heap.size) ∧ ¬ fp k
theorem J1.fresh {w0 w w' : World} {X Y S : Nat → Prop} {p : Nat} {ds cs : List Dg} (h : J1 w0 w X p ds cs) (hc : Chg S w w') (hS : ∀ k, S k → X k) (hY : ∀ k, Y k → X k ∨ (w.heap.size ≤ k ∧ k < w'.heap.size)) : J1 w0 w' Y p ds cs := by
  obtain ⟨fp, ⟨vl, vc, hA⟩, h0, hX⟩ := h
  refine ⟨fp, ⟨vl, vc, hA.chg hc (fun k h1 h2 => (hX k (hS k h2)).2 h1)⟩, h0.trans2 hc (fun k hk hx => by have := hX k (hS k hx); omega), fun k hk => ?_⟩
  rcases hY k hk with h1 | h1
  · have := hX k h1
    exact ⟨⟨this.1.1, Nat.lt_of_lt_of_le this.1.2 hc.size⟩, this.2⟩
  · exact ⟨⟨Nat.le_trans h0.size h1.1, h1.2⟩, fun hf => by have := hA.fpb k hf; omega⟩
theorem J1.other {w0 w w' : World} {X : Nat → Prop} {p : Nat} {ds cs : List Dg} (h : J1 w0 w X p ds cs) (hc : Chg NoS w w') : J1 w0 w' X p ds cs := h.fresh hc (fun _ x => x.elim) (fun k hk => .inl hk)
theorem J1.air {w0 w w' : World} {X : Nat → Prop} {p : Nat} {fp : Nat → Prop} {ds cs ds' cs' : List Dg} (hA : AirSt w w0.heap.size p fp ds cs) (h0 : Chg NoS w0 w) (hX : ∀ k, X k → (w0.heap.size ≤ k ∧ k < w.heap.size) ∧ ¬ fp k)
    (hA' : AirSt w' w0.heap.size p (grown fp w w') ds' cs') (hc : Chg fp w w') : J1 w0 w' X p ds' cs' := by
  obtain ⟨vl, vc, hA⟩ := hA
  exact ⟨grown fp w w', hA', h0.trans2 hc (fun k hk hx => by have := hA.fpb k hx; omega), fun k hk => ⟨⟨(hX k hk).1.1, Nat.lt_of_lt_of_le (hX k hk).1.2 hc.size⟩, fun h => h.elim (hX k hk).2 (fun h => by have := hX k hk; omega)⟩⟩
theorem J1.put {w0 w : World} {X : Nat → Prop} {p n c : Nat} {ds cs : List Dg} {a : Option Addr} {bs : List Value} (h : J1 w0 w X p ds cs) (hn : bs.length = n) (hr : Reads w a bs) (h0 : a = none → n = 0) (hb : bytesV bs) (hl : n ≤ 1099511627776) (hl2 : ds.length ≤ 1099511627776) :
    Calls Try.prog 11 #[.pointer (some ⟨p, 0, none⟩), .slice a n c] w (endW (fun v w' => ∃ d : Dg, d.n = n ∧ d.bs = bs ∧ d.ch = false ∧ J1 w0 w' X p (ds ++ [d]) cs ∧ ∃ fp : Nat → Prop, (∀ k, X k → ¬ fp k) ∧ Chg fp w w') (fun _ _ => False)) := by
  obtain ⟨fp, hA, hc0, hX⟩ := h
  refine Calls.then (Put_ok hA hn hr h0 hb hl hl2 (c := c)) ?_
  rintro v w' ⟨hv, d, h1, h2, h3, hA', hc⟩
  exact ⟨d, h1, h2, h3, J1.air hA hc0 hX hA' hc, fp, fun k hk => (hX k hk).2, hc⟩
theorem J1.did {w0 w : World} {X : Nat → Prop} {p : Nat} {ds cs : List Dg} (h : J1 w0 w X p ds cs) (what at_ : Int) (h0 : 0 ≤ what) (hl : ds.length ≤ 1099511627776) (hl2 : cs.length ≤ 1099511627776) (ha2 : at_ ≤ 9223372036854775807) (hbl : ∀ d ∈ ds, d.n ≤ 1099511627776) :
    Calls Try.prog 16 #[.pointer (some ⟨p, 0, none⟩), .int .u8 what, .int .i64 at_] w (endW (fun v w' => ∃ e, v = .int .i64 e ∧ ∃ ds' cs', Did at_ what ds cs e ds' cs' ∧ J1 w0 w' X p ds' cs' ∧ (∃ fp : Nat → Prop, (∀ k, X k → ¬ fp k) ∧ Chg fp w w')) (fun _ _ => False)) := by
  by_cases h1 : 5 ≤ what ∨ at_ < 0
  · refine Calls.then (Do_arg (ds := []) (cs := []) (base := 0) (fp := fun _ => False) what at_ h1) ?_
    rintro v w' ⟨rfl, rfl⟩
    exact ⟨2, rfl, ds, cs, .inl ⟨h1, rfl, rfl, rfl⟩, h, NoS, fun _ _ x => x, Chg.refl _ _⟩
  obtain ⟨fp, hA, hc0, hX⟩ := h
  by_cases h2 : ds.length = 0
  · have h2 : ds = [] := List.length_eq_zero_iff.1 h2
    subst h2
    refine Calls.then (Do_none hA what at_ (by omega) (by omega)) ?_
    rintro v w' ⟨rfl, rfl⟩
    exact ⟨5, rfl, [], cs, .inr (.inl ⟨by omega, by omega, rfl, rfl, rfl, rfl⟩), ⟨fp, hA, hc0, hX⟩, NoS, fun _ _ x => x, Chg.refl _ _⟩
  · refine Calls.then (Do_ok hA what at_ h0 (by omega) (by omega) (by omega) hl hl2 ha2 hbl) ?_
    rintro v w' ⟨rfl, ds', cs', hdd, hA', hc⟩
    exact ⟨0, rfl, ds', cs', .inr (.inr ⟨by omega, by omega, by omega, rfl, hdd⟩), J1.air hA hc0 hX hA' hc, fp, fun k hk => (hX k hk).2, hc⟩
theorem J1.came {w0 w : World} {X : Nat → Prop} {p : Nat} {ds cs : List Dg} (h : J1 w0 w X p ds cs) :
    Calls Try.prog 13 #[.pointer (some ⟨p, 0, none⟩)] w (endW (fun v w' => ∃ a, v = .slice a cs.length cs.length ∧ Came w' w0.heap.size a cs ∧ Chg NoS w0 w' ∧ ∃ fp : Nat → Prop, (∀ k, X k → ¬ fp k) ∧ Chg fp w w') (fun _ _ => False)) := by
  obtain ⟨fp, hA, hc0, hX⟩ := h
  refine Calls.then (Came_ok hA) ?_
  rintro v w' ⟨a, rfl, ⟨vc, c, rfl, hrow⟩, hrows, hnd, fp', hA', hfp, ha, hb, hc, hsz⟩
  obtain ⟨vl, vc2, hA⟩ := hA
  exact ⟨a, rfl, ⟨⟨c, hrow⟩, hrows, hnd⟩, hc0.trans2 hc (fun k hk hx => by have := hA.fpb k hx; omega), fp, fun k hk => (hX k hk).2, hc⟩

/-! ### the sealed rows -/
structure Seals (w : World) (base : Nat) (a : Option Addr) (c : Nat) (ss : List Dg) : Prop where
  row : w.ownsRow base 31 1 (.slice a ss.length c) ss.length (ss.map Dg.v)
  each : ∀ d ∈ ss, w.ownsRow base 5 1 d.v d.n d.bs
  is : ∀ d ∈ ss, ∃ b : List UInt8, b.length ≤ 16384 ∧ d.bs = vals (sealed b)
theorem Seals.chg {S : Nat → Prop} {w w' : World} {base : Nat} {a : Option Addr} {c : Nat} {ss : List Dg} (h : Seals w base a c ss) (hc : Chg S w w') (hs : ∀ k, CX a ss k → ¬ S k) : Seals w' base a c ss := by
  refine ⟨own_of_chg h.row hc (fun k hk => hs k (.inl ?_)), fun d hd => own_of_chg (h.each d hd) hc (fun k hk => hs k (.inr (mem_blks.2 ⟨d, hd, hk⟩))), h.is⟩
  cases a with
  | none => simp [Value.ownBlock] at hk
  | some A => simpa [Value.ownBlock] using hk
theorem ownBlock_slice {a : Option Addr} {n c k : Nat} (h : (Value.slice a n c).ownBlock = some k) : a.map (·.block) = some k := by
  cases a with
  | none => simp [Value.ownBlock] at h
  | some A => simpa [Value.ownBlock] using h
theorem ownBlock_slice' {a : Option Addr} {n c k : Nat} (h : a.map (·.block) = some k) : (Value.slice a n c).ownBlock = some k := by
  cases a with
  | none => simp at h
  | some A => simpa [Value.ownBlock] using h

/-- One row more is sealed and kept. -/
theorem Seals.push {w0 w2 w : World} {p c n c1 : Nat} {a b : Option Addr} {ss ds cs : List Dg} {xs : List UInt8} {K : Value → World → Prop} {E : PanW}
    (hs : Seals w2 w0.heap.size a c ss) (hJ : J1 w0 w2 (CX a ss) p ds cs) (hc : Chg NoS w2 w) (hd : Out w2 w b n c1 (sealed xs)) (hx : xs.length ≤ 16384) (hl : ss.length ≤ 1000)
    (h : ∀ a' c' w', Seals w' w0.heap.size a' c' (ss ++ [⟨.slice b n c1, n, vals (sealed xs), false⟩]) → J1 w0 w' (CX a' (ss ++ [⟨.slice b n c1, n, vals (sealed xs), false⟩])) p ds cs → Chg NoS w0 w' → K (.slice a' (ss.length + 1) c') w') :
    runV Try.prog (Builtin.append_ #[28, 28] 28 #[.slice a ss.length c, .slice (some ⟨w.heap.size, 0, none⟩) 1 1]) (w.alloc (.cells #[.slice b n c1] 31)) K E := by
  obtain ⟨i, hi, hz, hsz, hby⟩ := info_open info31
  have hb := blk_alloc w (.cells #[.slice b n c1] 31)
  have hc3 := chg_alloc w (.cells #[.slice b n c1] 31) NoS
  have hc23 := hc.trans hc3
  generalize w.alloc (.cells #[.slice b n c1] 31) = w3 at *
  have h02 : Chg NoS w0 w2 := by obtain ⟨_, _, h, _⟩ := hJ; exact h
  have hrow3 := own_of_chg hs.row hc23 (fun _ _ x => x)
  refine append_own (base := w0.heap.size) (n := ss.length) (m := 1) Try.underlying28 hi hz hsz rfl hrow3 (src_slice (news := [.slice b n c1]) Try.underlying28 rfl (reads_lit hb) (fun e => by cases e) (by simp [Value.oneCell'])) (by rw [hby]; omega) (by omega) (Nat.le_trans h02.size hc23.size) ?_
  intro v' w4 ho4 hc4 hb1 hb2
  obtain ⟨a', c', rfl, _, _⟩ := own_form ho4
  have hold : ∀ k, (Value.slice a ss.length c).ownBlock = some k → k < w2.heap.size := fun k hk => (own_lt' hs.row hk).1
  have hc24 : Chg (fun k => (Value.slice a ss.length c).ownBlock = some k) w2 w4 := (hc23.mono fun _ _ x => x.elim).trans hc4
  have hdb : ∀ k, (Value.slice b n c1).ownBlock = some k → w2.heap.size ≤ k := fun k hk => (own_lt' hd hk).2
  have hd4 : w4.ownsRow w2.heap.size 5 1 (.slice b n c1) n (vals (sealed xs)) := own_of_chg (own_of_chg hd hc3 (fun _ _ x => x)) hc4 (fun k hk e => by have := hdb k hk; have := hold k e; omega)
  have hY : ∀ k, CX a' (ss ++ [⟨.slice b n c1, n, vals (sealed xs), false⟩]) k → CX a ss k ∨ (w2.heap.size ≤ k ∧ k < w4.heap.size) := by
    rintro k (hk | hk)
    · have hk' := ownBlock_slice' (n := ss.length + 1) (c := c') hk
      rcases hb1 with e | e
      · exact .inl (.inl (ownBlock_slice (e ▸ hk')))
      · exact .inr ⟨by rw [e] at hk'; have := Option.some.inj hk'; have := hc23.size; omega, (own_lt' ho4 hk').1⟩
    · rw [blks_append] at hk
      rcases List.mem_append.1 hk with hk | hk
      · exact .inl (.inr hk)
      · obtain ⟨d, hd', hk⟩ := mem_blks.1 hk
        rw [List.mem_singleton.1 hd'] at hk
        exact .inr ⟨hdb k hk, (own_lt' hd4 hk).1⟩
  have hJ4 := hJ.fresh hc24 (fun k hk => .inl (ownBlock_slice hk)) hY
  refine h a' c' w4 ⟨by simpa using ho4, fun d hd' => ?_, fun d hd' => ?_⟩ hJ4 (by obtain ⟨_, _, h, _⟩ := hJ4; exact h)
  · rcases List.mem_append.1 hd' with h1 | h1
    · refine own_of_chg (hs.each d h1) hc24 (fun k hk e => ?_)
      obtain ⟨cs', hcs⟩ := own_typed' hs.row e
      exact own_ne' (hs.each d h1) hcs (by decide) hk
    · rw [List.mem_singleton.1 h1]
      exact own_base' hd4 (fun k hk => Nat.le_trans h02.size (hdb k hk))
  · rcases List.mem_append.1 hd' with h1 | h1
    · exact hs.is d h1
    · rw [List.mem_singleton.1 h1]
      exact ⟨xs, hx, rfl⟩

/-- A datagram is a sealed row, or one with one byte changed. -/
def Near (ss : List Dg) (d : Dg) : Prop := ∃ s ∈ ss, ∃ b : List UInt8, b.length ≤ 16384 ∧ s.bs = vals (sealed b) ∧ d.n = b.length + 4 ∧ ((d.ch = false ∧ d.bs = vals (sealed b)) ∨ (d.ch = true ∧ ∃ (j : Nat) (y : UInt8), (sealed b)[j]? = some y ∧ d.bs = vals ((sealed b).set j (y ^^^ 0x5a))))
theorem Near.more {ss : List Dg} {d e : Dg} (h : Near ss d) : Near (ss ++ [e]) d := by
  obtain ⟨s, hs, r⟩ := h
  exact ⟨s, List.mem_append_left _ hs, r⟩
theorem Near.did {at_ what e : Int} {ds cs ds' cs' ss : List Dg} (h : Did at_ what ds cs e ds' cs') (hq : ∀ d ∈ ds ++ cs, Near ss d) : ∀ d ∈ ds' ++ cs', Near ss d :=
  h.all hq (fun x y ⟨s, hs, b, h1, h2, h3, h4⟩ e1 e2 e3 => ⟨s, hs, b, h1, h2, by omega, by rw [e1, e3]; exact h4⟩) (fun x y j z ⟨s, hs, b, h1, h2, h3, h4⟩ hch hb e1 e2 e3 => by
    refine ⟨s, hs, b, h1, h2, by omega, .inr ⟨e2, j, z, ?_, ?_⟩⟩
    · rcases h4 with ⟨_, h4⟩ | ⟨h4, _⟩
      · rw [h4] at hb
        simp only [vals, List.getElem?_map, Option.map_eq_some_iff] at hb
        obtain ⟨z', hz, he⟩ := hb
        rw [hz, u8_val_inj he]
      · rw [hch] at h4; cases h4
    · rcases h4 with ⟨_, h4⟩ | ⟨h4, _⟩
      · rw [e3, h4]
        unfold vals
        rw [List.map_set]
      · rw [hch] at h4; cases h4)
/-- whether it opens, and whether it is one of the sealed -/
theorem Near.good {ss : List Dg} {d : Dg} (h : Near ss d) (hss : ∀ s ∈ ss, ∃ b : List UInt8, b.length ≤ 16384 ∧ s.bs = vals (sealed b)) : ∃ xs : List UInt8, d.bs = vals xs ∧ 4 ≤ xs.length ∧ xs.length ≤ 16388 ∧ d.n = xs.length ∧ ((∃ s ∈ ss, s.bs = d.bs) ↔ good xs) := by
  obtain ⟨s, hs, b, h1, h2, h3, ⟨_, h4⟩ | ⟨_, j, y, hj, h4⟩⟩ := h
  · have := sealed_length b
    exact ⟨sealed b, h4, by omega, by omega, by omega, ⟨fun _ => good_sealed b, fun _ => ⟨s, hs, by rw [h2, h4]⟩⟩⟩
  · have := sealed_length b
    refine ⟨(sealed b).set j (y ^^^ 0x5a), h4, by rw [List.length_set]; omega, by rw [List.length_set]; omega, by rw [List.length_set]; omega, ⟨fun ⟨s', hs', he⟩ => ?_, fun g => absurd g (bad_changed hj)⟩⟩
    obtain ⟨b', _, hb'⟩ := hss s' hs'
    rw [h4, hb'] at he
    rw [← vals_inj he]
    exact good_sealed b'
theorem bytesV_vals (bs : List UInt8) : bytesV (vals bs) := fun u hu => by
  obtain ⟨x, _, rfl⟩ := List.mem_map.1 hu
  exact ⟨x, rfl⟩
theorem RB.of_own {w : World} {base n : Nat} {v : Value} {bs : List Value} (h : w.ownsRow base 5 1 v n bs) (hb : bytesV bs) (hl : n ≤ 1099511627776) : RB w v bs := by
  obtain ⟨a, c, rfl, _, _⟩ := own_form h
  exact ⟨a, n, c, rfl, by have := h.1; omega, hl, own_reads' h, hb⟩
end Go.Proofs.Ytcfagkmkfjhhiaa.S
