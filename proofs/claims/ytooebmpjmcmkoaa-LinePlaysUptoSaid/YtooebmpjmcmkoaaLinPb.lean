/-
  LinePlays: one act on an end and on the document's.
-/
import Derived.Test.YtooebmpjmcmkoaaLinPa
set_option maxRecDepth 100000
set_option linter.unusedVariables false
set_option linter.unusedSimpArgs false
namespace Go.Proofs.Ytooebmpjmcmkoaa.B
open Go Go.Proofs Go.Proofs.YtooebmpjmcmkoaaEng

structure Pl (w0 w : World) (i j p q pt px : Nat) (C : Array Value) (ms0 : Ents) (m1 m2 : Lm) (va : Value) (la : List (List UInt8)) (X : Nat → Prop) (Fs : Nat → Nat → Prop) (ms : Ents) (Ls : Lss) : Prop where
  sy : Sys w0 w X Fs ms Ls
  mi : ms i = some (54, p, m1)
  mj : ms j = some (56, q, m2)
  o : ∀ n, n ≠ i → n ≠ j → ms n = ms0 n
  l : Ls 10 = some (va, la)
  z : ∀ n, n = 20 ∨ n = 21 → ms n = none ∧ Ls n = none
  f : ∀ k, Fs 20 k ↔ k = pt
  c : w.heap[pt]? = some (.cells #[va] 30 (0, 0))
  b : w.heap[px]? = some (.cells C 33 (0, 0))
  nb : ¬ X px
  ne : i ≠ j ∧ i < 10 ∧ j < 10
variable {w0 w w' : World} {i j p q pt px : Nat} {C : Array Value} {ms0 : Ents} {m1 m2 m' : Lm} {va : Value} {la : List (List UInt8)} {X : Nat → Prop} {Fs : Nat → Nat → Prop} {ms : Ents} {Ls : Lss}
theorem Pl.quiet (h : Pl w0 w i j p q pt px C ms0 m1 m2 va la X Fs ms Ls) (hc : Chg NoS w w') : Pl w0 w' i j p q pt px C ms0 m1 m2 va la X Fs ms Ls ∧ Keeps w X w' X :=
  ⟨{ h with sy := (h.sy.quiet hc).1, c := hc.blk h.c fun x => x, b := hc.blk h.b fun x => x }, (h.sy.quiet hc).2⟩
theorem Pl.stepi {X' F' : Nat → Prop} (h : Pl w0 w i j p q pt px C ms0 m1 m2 va la X Fs ms Ls) (h2 : Sys w0 w' X' (updF Fs i F') (upd ms i (54, p, m')) Ls) (hx : ∀ k, X' k → X k ∨ w.heap.size ≤ k) (hc : Chg (Fs i) w w') :
    Pl w0 w' i j p q pt px C ms0 m' m2 va la X' (updF Fs i F') (upd ms i (54, p, m')) Ls := by
  have hne := h.ne
  have hpx := lt_of_blk h.b
  exact { sy := h2, mi := upd_same, mj := by rw [upd_other hne.1.symm]; exact h.mj, o := fun n h1 h2 => by rw [upd_other h1]; exact h.o n h1 h2, l := h.l,
          z := fun n hn => ⟨by rw [upd_other (by omega)]; exact (h.z n hn).1, (h.z n hn).2⟩, f := fun k => by rw [updF_other (by omega)]; exact h.f k,
          c := hc.blk h.c (fun hF => h.sy.st.dj 20 i pt (by omega) ((h.f pt).2 rfl) hF), b := hc.blk h.b (fun hF => h.nb (h.sy.st.fx i px hF)), nb := fun hx' => (hx px hx').elim h.nb fun hge => by omega, ne := hne }
theorem Pl.stepj {X' F' : Nat → Prop} (h : Pl w0 w i j p q pt px C ms0 m1 m2 va la X Fs ms Ls) (h2 : Sys w0 w' X' (updF Fs j F') (upd ms j (56, q, m')) Ls) (hx : ∀ k, X' k → X k ∨ w.heap.size ≤ k) (hc : Chg (Fs j) w w') :
    Pl w0 w' i j p q pt px C ms0 m1 m' va la X' (updF Fs j F') (upd ms j (56, q, m')) Ls := by
  have hne := h.ne
  have hpx := lt_of_blk h.b
  exact { sy := h2, mj := upd_same, mi := by rw [upd_other hne.1]; exact h.mi, o := fun n h1 h2 => by rw [upd_other h2]; exact h.o n h1 h2, l := h.l,
          z := fun n hn => ⟨by rw [upd_other (by omega)]; exact (h.z n hn).1, (h.z n hn).2⟩, f := fun k => by rw [updF_other (by omega)]; exact h.f k,
          c := hc.blk h.c (fun hF => h.sy.st.dj 20 j pt (by omega) ((h.f pt).2 rfl) hF), b := hc.blk h.b (fun hF => h.nb (h.sy.st.fx j px hF)), nb := fun hx' => (hx px hx').elim h.nb fun hge => by omega, ne := hne }
/-- bytes of the call's own, which nobody needs -/
def Mine (w : World) (F : Nat → Prop) (a : Option Addr) (n c : Nat) : Prop := ∃ base xs, w.ownsRow base 5 1 (.slice a n c) n xs ∧ (∀ u ∈ xs, ∃ z, u = Value.int .u8 z) ∧ ∀ k, (Value.slice a n c).ownBlock = some k → F k
theorem Mine.chg {S F : Nat → Prop} {a : Option Addr} {n c : Nat} (h : Mine w F a n c) (hc : Chg S w w') (hs : ∀ k, F k → ¬ S k) : Mine w' F a n c := by
  obtain ⟨base, xs, h1, h2, h3⟩ := h
  exact ⟨base, xs, own_of_chg h1 hc fun k hk => hs k (h3 k hk), h2, h3⟩
theorem Pl.copy {a : Option Addr} {n c : Nat} {bs : List UInt8} {K : Value → World → Prop} {E : PanW} (h : Pl w0 w i j p q pt px C ms0 m1 m2 va la X Fs ms Ls) (hn : bs.length = n) (hr : Reads w a (vals bs)) (h0 : a = none → n = 0) (hl : n ≤ 1099511627776)
    (hK : ∀ a' c' w' X' F, Pl w0 w' i j p q pt px C ms0 m1 m2 va la X' (updF Fs 21 F) ms Ls → Keeps w X w' X' → Chg NoS w w' → Reads w' a' (vals bs) → (a' = none → n = 0) → n ≤ c' → Mine w' F a' n c' → K (.slice a' n c') w') :
    runV Try.prog (Builtin.append_ #[31, 31] 31 #[.slice (some ⟨w.heap.size, 0, none⟩) 0 0, .slice a n c]) (w.alloc (.cells #[] 5)) K E := by
  refine bytes_fresh (base := w.heap.size) S.bT Try.underlying31 hn hr h0 (by omega) (Nat.le_refl _) ?_
  intro a' c' w2 ho2 hc2 hb2
  obtain ⟨hr2, hl2, hn2, _, hcc2⟩ := own_reads_v ho2
  have hF : ∀ k, (Value.slice a' n c').ownBlock = some k → w.heap.size ≤ k ∧ k < w2.heap.size := fun k hk => ⟨hb2 k hk, (own_lt' ho2 hk).1⟩
  obtain ⟨g1, g2⟩ := h.sy.own (n := 21) (h.z 21 (.inr rfl)) hc2 (fun k => (Value.slice a' n c').ownBlock = some k) hF
  have hpx := lt_of_blk h.b
  refine hK a' c' w2 _ _ { h with sy := g1, f := fun k => by rw [updF_other (by omega)]; exact h.f k, c := hc2.blk h.c fun x => x, b := hc2.blk h.b fun x => x, nb := fun hx => hx.elim h.nb fun hx => by have := (hF _ hx).1; omega } g2 hc2 hr2 hn2 hcc2 ⟨_, _, ho2, fun u hu => ?_, fun k hk => hk⟩
  simp only [vals, List.mem_map] at hu
  obtain ⟨x, _, rfl⟩ := hu
  exact ⟨_, rfl⟩
theorem Pl.write {n : Nat} (h : Pl w0 w i j p q pt px C ms0 m1 m2 va la X Fs ms Ls) (hn : n = 21) (hc : Chg (Fs n) w w') : Pl w0 w' i j p q pt px C ms0 m1 m2 va la X Fs ms Ls ∧ Keeps w X w' X := by
  obtain ⟨g1, g2⟩ := h.sy.write (h.z n (.inr hn)) hc
  exact ⟨{ h with sy := g1, c := hc.blk h.c fun hF => h.sy.st.dj 20 n pt (by omega) ((h.f pt).2 rfl) hF, b := hc.blk h.b fun hF => h.nb (h.sy.st.fx n px hF) }, g2⟩
theorem flip_loop {a : Option Addr} {n c : Nat} {V : Int → Int} {Rest : World → Prop} (h : Pl w0 w i j p q pt px C ms0 m1 m2 va la X Fs ms Ls) (hm : Mine w (Fs 21) a n c) (hl : n ≤ 1099511627776) (hR : ∀ w', Pl w0 w' i j p q pt px C ms0 m1 m2 va la X Fs ms Ls → Keeps w X w' X → Rest w') :
    ∃ (I : Int → World → Prop), ∃ (μ : Int → World → Nat), (∃ (s : Int), (Value.int IntKind.i64 s = Value.int IntKind.i64 (0 : Int) ∧ True) ∧ I s w) ∧ ∀ (s : Int) (w_2 : World), I s w_2 → ∀ (junk : Env), if Decidable.decide (s < (↑n : Int)) = Bool.true then
      (0 : Int) ≤ s ∧ s < (↑n : Int) ∧ wSome a fun (A : Addr) => ∃ (x : Int), World.cell? w_2 (addK A (Int.toNat s * (1 : Nat))) = Option.some (Value.int IntKind.u8 x) ∧ (0 : Int) ≤ s ∧ s < (↑n : Int) ∧ wSome a fun (A : Addr) =>
        setW w_2 (addK A (Int.toNat s * (1 : Nat))) (Value.int IntKind.u8 (V x)) fun (w : World) => ∃ (s' : Int), (Value.int IntKind.i64 s' = Value.int IntKind.i64 (IntKind.wrap IntKind.i64 (s + (1 : Int))) ∧ True) ∧ I s' w ∧ μ s' w < μ s w_2
      else Rest w_2 := by
  refine ⟨fun s w' => ∃ k : Nat, s = (k : Int) ∧ k ≤ n ∧ Pl w0 w' i j p q pt px C ms0 m1 m2 va la X Fs ms Ls ∧ Keeps w X w' X ∧ Mine w' (Fs 21) a n c, fun s _ => (n - s).toNat, ⟨0, ⟨rfl, trivial⟩, 0, rfl, Nat.zero_le _, h, fun _ _ h => h, hm⟩, ?_⟩
  rintro s w2 ⟨k, rfl, hk, h2, hk2, base, xs, ho, hu, hF⟩ _
  by_cases hlt : k < n
  · rw [if_pos (by simp; omega)]
    have hxl : xs.length = n := by have := ho.1; omega
    obtain ⟨z, hz⟩ := hu xs[k] (List.getElem_mem (by omega))
    obtain ⟨A, hA, hcell⟩ := own_reads' ho k _ (List.getElem?_eq_getElem (by omega))
    obtain ⟨a3, c3, hf, _, ha'⟩ := own_form ho
    injection hf with hf1 _ _
    subst hf1
    obtain ⟨g, rfl⟩ := ha' A hA
    subst hA
    rw [hz] at hcell
    refine ⟨by omega, by omega, wSome_of rfl ⟨z, by rw [Int.toNat_natCast, Nat.mul_one]; exact hcell, by omega, by omega, wSome_of rfl ?_⟩⟩
    rw [Int.toNat_natCast, Nat.mul_one, addK_lit, Nat.zero_add]
    refine setW_own (j := k) (v := .int .u8 (V z)) ho (by omega) rfl ?_
    intro w3 ho3 hc3 hs3
    have hc3' : Chg (Fs 21) w2 w3 := hc3.mono fun k' _ e => by
      have : k' = g := e
      subst this
      exact hF _ rfl
    obtain ⟨h3, hk3⟩ := h2.write rfl hc3'
    refine ⟨((k + 1 : Nat) : Int), ⟨by rw [i64w _ (by omega) (by omega)]; rfl, trivial⟩, ⟨k + 1, rfl, by omega, h3, fun v bs hr => hk3 v bs (hk2 v bs hr), base, _, ho3, fun u hu' => ?_, hF⟩, by dsimp only; omega⟩
    rcases List.mem_or_eq_of_mem_set hu' with hu' | rfl
    · exact hu u hu'
    · exact ⟨_, rfl⟩
  · rw [if_neg (by simp; omega)]
    exact hR w2 h2 hk2

/-- what an act leaves: both ends alike, and what was told -/
def After (w0 : World) (i j p q pt : Nat) (ms0 : Ents) (k kl : Nat) (w' : World) : Prop := ∃ px C m va la X Fs ms Ls, Pl w0 w' i j p q pt px C ms0 m m va la X Fs ms Ls ∧ m.good k ∧ la.length ≤ kl ∧ ∀ d ∈ la, d.length ≤ 20000
theorem Pl.lefts {k kl : Nat} (h : Pl w0 w i j p q pt px C ms0 m1 m1 va la X Fs ms Ls) (hg : m1.good k) (hl : la.length ≤ kl) (hd : ∀ d ∈ la, d.length ≤ 20000) {E : PanW} :
    Calls Try.prog 21 #[.pointer (some ⟨p, 0, none⟩)] w (endW (fun v w' => ∃ x, v = Value.int .i64 x ∧ Calls Try.prog 31 #[.pointer (some ⟨q, 0, none⟩)] w' (endW (fun v w' => ∃ x_1, v = Value.int .i64 x_1 ∧ (Value.bool (x == x_1) = .bool true ∧ After w0 i j p q pt ms0 k kl w')) E)) E) := by
  refine Calls.then (h.sy.left h.mi) ?_
  rintro v w1 ⟨rfl, rfl⟩
  refine ⟨_, rfl, ?_⟩
  refine Calls.then (h.sy.rleft h.mj) ?_
  rintro v w2 ⟨rfl, rfl⟩
  refine ⟨_, rfl, ?_⟩
  rw [show (((m1.sent.length : Nat) : Int) == ((m1.sent.length : Nat) : Int)) = true from by simp]
  exact ⟨rfl, _, _, _, _, _, _, _, _, _, h, hg, hl, hd⟩

structure Pl0 (w0 w : World) (i j p q pt : Nat) (ms0 : Ents) (m1 m2 : Lm) (va : Value) (la : List (List UInt8)) (X : Nat → Prop) (Fs : Nat → Nat → Prop) (ms : Ents) (Ls : Lss) : Prop where
  sy : Sys w0 w X Fs ms Ls
  mi : ms i = some (54, p, m1)
  mj : ms j = some (56, q, m2)
  o : ∀ n, n ≠ i → n ≠ j → ms n = ms0 n
  l : Ls 10 = some (va, la)
  z : ∀ n, n = 20 ∨ n = 21 → ms n = none ∧ Ls n = none
  f : ∀ k, Fs 20 k ↔ k = pt
  c : w.heap[pt]? = some (.cells #[va] 30 (0, 0))
  ne : i ≠ j ∧ i < 10 ∧ j < 10
theorem act_ok {x0 x1 x2 : Int} {N n4 c4 : Nat} {a4 : Option Addr} {bs : List UInt8} {k kl : Nat} (hC : C = #[.int .i64 x0, .int .i64 x1, .int .i64 x2, .int .u32 (N : Int), .slice a4 n4 c4]) (hN : N < 4294967296) (hx2 : -9223372036854775808 ≤ x2 ∧ x2 ≤ 9223372036854775807)
    (h : Pl0 w0 w i j p q pt ms0 m1 m1 va la X Fs ms Ls) (hg : m1.good k) (hk : k + 32 ≤ 1000000000) (hl : la.length ≤ kl) (hkl : kl ≤ 1000) (hd : ∀ d ∈ la, d.length ≤ 20000) (hB : RowIn w0 No (.slice a4 n4 c4) bs) (hB2 : bs.length ≤ 1048576) :
    Calls Try.prog 13 #[.pointer (some ⟨p, 0, none⟩), .pointer (some ⟨q, 0, none⟩), .agg C, .pointer (some ⟨pt, 0, none⟩)] w (endW (fun v w' => v = .bool true ∧ After w0 i j p q pt ms0 (k + 32) (kl + 1) w') (fun _ _ => False)) := by
  subst hC
  refine F13_calls _ _ _ _ _ _ _ _ _ _ ?_
  delta F13
  obtain ⟨C, hC⟩ : ∃ C : Array Value, C = #[.int .i64 x0, .int .i64 x1, .int .i64 x2, .int .u32 (N : Int), .slice a4 n4 c4] := ⟨_, rfl⟩
  rw [← hC]
  have hbx := blk_alloc w (.cells C 33)
  have hc1 := chg_alloc w (.cells C 33) NoS
  have hP : Pl w0 (w.alloc (.cells C 33)) i j p q pt w.heap.size C ms0 m1 m1 va la X Fs ms Ls := { sy := (h.sy.quiet hc1).1, mi := h.mi, mj := h.mj, o := h.o, l := h.l, z := h.z, f := h.f, c := hc1.blk h.c fun x => x, ne := h.ne, b := hbx, nb := fun hx => by have := (h.sy.st.xb _ hx).2; omega }
  clear hc1 hbx
  generalize hgp : w.heap.size = px at hP ⊢
  generalize hgw : w.alloc (.cells C 33) = w1 at hP ⊢
  have cellAt : ∀ {w' : World} {X' : Nat → Prop} {Fs' ms' Ls'} {ma mb va' la'} (h : Pl w0 w' i j p q pt px C ms0 ma mb va' la' X' Fs' ms' Ls') (o : Nat), w'.cell? (addK ⟨px, 0, none⟩ o) = C[o]? := fun h o => by rw [addK_lit, cell_blk h.b, Nat.zero_add]
  have hB0 : RowIn w0 X (.slice a4 n4 c4) bs := hB.wide fun k' hk' hx => by have := (h.sy.st.xb k' hx).1; omega
  have hRow : RowIn w1 X (.slice a4 n4 c4) bs := hB0.chg hP.sy.st.ch fun k' _ h => h.elim
  obtain ⟨hrr, hrl, hrc, hr0⟩ := RowIn.rd hRow
  refine ⟨x1, by rw [cellAt hP, hC]; rfl, ?_⟩
  by_cases c0 : (x1 == 0) = true
  · rw [if_pos c0]
    refine ⟨a4, n4, c4, (chg_alloc w1 (.cells #[] 5) NoS).sameOld.cell (by rw [cellAt hP, hC]; rfl), ?_⟩
    refine hP.copy hrl hrr hr0 (by omega) ?_
    intro a' c' w2 X2 F2 h2 hk2 hc2 hr2 hn2 hcc2 hm2
    refine ⟨_, _, _, rfl, ?_⟩
    refine Calls.then (h2.sy.send h2.mi hg.ok.sent hrl hr2 hn2) ?_
    rintro v w3 ⟨rfl, X3, F3, s3, hk3, hx3, hc3⟩
    refine ⟨_, rfl, ?_⟩
    have h3 := h2.stepi s3 hx3 hc3
    have hne := h3.ne
    have e21 : updF (updF Fs 21 F2) i F3 21 = F2 := by rw [updF_other (by omega), updF_same]
    refine flip_loop (V := fun x => _) h3 (by rw [e21]; exact hm2.chg hc3 fun k' hk' hF => h2.sy.st.dj 21 i k' (by omega) (by rw [updF_same]; exact hk') hF) (by omega) ?_
    intro w4 h4 hk4
    refine ⟨a4, n4, c4, by rw [cellAt h4, hC]; rfl, ?_⟩
    have hRow4 := hk4 _ _ (hk3 _ _ (hk2 _ _ hRow))
    refine Calls.then (h4.sy.rsend h4.mj hg.ok.sent hrl (RowIn.rd hRow4).1 hr0) ?_
    rintro v w5 ⟨rfl, X5, F5, s5, hk5, hx5, hc5⟩
    refine ⟨_, rfl, by simp, _, _, _, _, _, _, _, _, _, h4.stepj s5 hx5 hc5, (hg.send bs).more (by omega), by omega, hd⟩
  rw [if_neg c0]
  by_cases c1 : (x1 == 1) = true
  · rw [if_pos c1]
    refine Calls.then (hP.sy.tick hP.mi hg.ok.sent hg.rows) ?_
    rintro v w2 ⟨hc2, b2, rv2, rfl, hbs2, hbl2, hrow2⟩
    obtain ⟨h2, hk2⟩ := hP.quiet hc2
    refine ⟨_, _, _, rfl, ?_⟩
    refine Calls.then (h2.sy.rtick h2.mj hg.ok.sent hg.rows) ?_
    rintro v w3 ⟨hc3, b3, rv3, rfl, hbs3, hbl3, hrow3⟩
    obtain ⟨h3, hk3⟩ := h2.quiet hc3
    refine ⟨_, _, _, rfl, ?_⟩
    have hlen : (S.sealed m1.payload).length ≤ 20000 := by rw [S.sealed_length]; have := (payload_len m1).2; omega
    refine Calls.then (All_ok (ls := [S.sealed m1.payload]) (ms := [S.sealed m1.payload]) (reads_lit (hc3.blk hbl2 fun x => x)) (show BRows w3 X [rv2] [S.sealed m1.payload] from ⟨hk3 _ _ hrow2, trivial⟩) (reads_lit hbl3) (show BRows w3 X [rv3] [S.sealed m1.payload] from ⟨hrow3, trivial⟩) (by simp) (by simp)
      (fun l hl => by simp at hl; subst hl; omega) (fun l hl => by simp at hl; subst hl; omega)) ?_
    rintro v w4 ⟨rfl, hc4⟩
    obtain ⟨h4, hk4⟩ := h3.quiet hc4
    refine ⟨_, rfl, ?_⟩
    rw [if_neg (by simp)]
    obtain ⟨av, cv, usv, rfl, _⟩ := h4.sy.form h4.l
    refine wSome_of rfl ⟨av, la.length, cv, by have := cell_blk h4.c 0; exact this, ?_⟩
    refine h4.sy.push h4.l (us := [rv3]) (ns := [S.sealed m1.payload]) (reads_lit (hc4.blk hbl3 fun x => x)) ⟨hk4 _ _ hrow3, trivial⟩ rfl (fun e => by cases e) (by simp; omega) ?_
    rintro a5 c5 w5 ⟨X5, F5, s5, hk5, hx5, hc5⟩
    refine ⟨_, _, _, rfl, wSome_of rfl ?_⟩
    have hne := h4.ne
    have hpx := lt_of_blk h4.b
    have hpt5 := hc5.blk h4.c fun hF => h4.sy.st.dj 20 10 pt (by omega) ((h4.f pt).2 rfl) hF
    have hpx5 := hc5.blk h4.b fun hF => h4.nb (h4.sy.st.fx 10 px hF)
    refine setW_blk hpt5 (by simp) rfl ?_
    intro w6 hb6 hc6 hs6
    have hF20 : ∀ k, updF Fs 10 F5 20 k ↔ k = pt := fun k => by rw [updF_other (by omega)]; exact h4.f k
    have hc6' : Chg (updF Fs 10 F5 20) w5 w6 := hc6.mono fun k' _ e => (hF20 k').2 e
    have hz : ∀ n, n = 20 ∨ n = 21 → ms n = none ∧ updL Ls 10 (.slice a5 (la.length + [S.sealed m1.payload].length) c5, la ++ [S.sealed m1.payload]) n = none := fun n hn => ⟨(h4.z n hn).1, by rw [updL_other (by omega)]; exact (h4.z n hn).2⟩
    obtain ⟨s6, hk6⟩ := s5.write (hz 20 (.inl rfl)) hc6'
    have h6 : Pl w0 w6 i j p q pt px C ms0 m1 m1 (.slice a5 (la.length + [S.sealed m1.payload].length) c5) (la ++ [S.sealed m1.payload]) X5 (updF Fs 10 F5) ms (updL Ls 10 (.slice a5 (la.length + [S.sealed m1.payload].length) c5, la ++ [S.sealed m1.payload])) :=
      { sy := s6, mi := h4.mi, mj := h4.mj, o := h4.o, l := updL_same, z := hz, f := hF20, c := hb6, b := hc6.blk hpx5 fun e => by
          have e : px = pt := e
          subst e
          exact h4.nb (h4.sy.st.fx 20 _ ((h4.f _).2 rfl)),
        nb := fun hx => (hx5 px hx).elim h4.nb fun hge => by omega, ne := hne }
    refine h6.lefts (k := k + 32) (kl := kl + 1) (hg.more (by omega)) (by simp; omega) fun d hd' => ?_
    rcases List.mem_append.1 hd' with hd' | hd'
    · exact hd d hd'
    · simp at hd'
      subst hd'
      exact hlen
  rw [if_neg c1]
  refine ⟨fun _ w' => w' = w1, ?_, ?_⟩
  · rintro s w' rfl _
    by_cases cs : s = true
    · rw [if_pos cs]
      refine ⟨a4, n4, c4, by rw [cellAt hP, hC]; rfl, ?_⟩
      refine ⟨fun s w2 => ∃ bs, Pl w0 w2 i j p q pt px C ms0 m1 m1 va la X Fs ms Ls ∧ RowIn w2 X (.slice s.1 s.2.1 s.2.2) bs ∧ bs.length ≤ 1048576, ?_, ?_⟩
      · rintro ⟨ab, nb, cb⟩ w2 ⟨bt, h2, hrow, hbl⟩ _
        dsimp only at hrow ⊢
        obtain ⟨hrr2, hrl2, hrc2, hr02⟩ := RowIn.rd hrow
        refine h2.copy hrl2 hrr2 hr02 (by omega) ?_
        intro a' c' w3 X3 F3 h3 hk3 hc3 hr3 hn3 hcc3 hm3
        refine ⟨_, _, _, rfl, ?_⟩
        have hok : m1.ok 1000000000 := (hg.more (by omega)).ok
        refine Calls.then (h3.sy.take h3.mi hok hrl2 hcc3 hr3 (by omega)) ?_
        rintro v w4 ⟨rfl, X4, F4, s4, hk4, hx4, hc4⟩
        refine ⟨_, rfl, ?_⟩
        have h4 := h3.stepi s4 hx4 hc4
        have hne := h4.ne
        have e21 : updF (updF Fs 21 F3) i F4 21 = F3 := by rw [updF_other (by omega), updF_same]
        refine flip_loop (V := fun x => _) h4 (by rw [e21]; exact hm3.chg hc4 fun k' hk' hF => h3.sy.st.dj 21 i k' (by omega) (by rw [updF_same]; exact hk') hF) (by omega) ?_
        intro w5 h5 hk5
        have hrow5 := hk5 _ _ (hk4 _ _ (hk3 _ _ hrow))
        refine Calls.then (h5.sy.rtake h5.mj hok hrl2 hrc2 (RowIn.rd hrow5).1 (by omega)) ?_
        rintro v w6 ⟨rfl, X6, F6, s6, hk6, hx6, hc6⟩
        exact ⟨_, rfl, by simp, _, _, _, _, _, _, _, _, _, h5.stepj s6 hx6 hc6, hg.take bt, by omega, hd⟩
      · refine ⟨x1, by rw [cellAt hP, hC]; rfl, ?_⟩
        by_cases c2 : (x1 == 2) = true
        · rw [if_pos c2]
          obtain ⟨av, cv, usv, rfl, _⟩ := hP.sy.form hP.l
          have hpt := cell_blk hP.c 0
          refine wSome_of rfl ⟨av, la.length, cv, hpt, ?_⟩
          by_cases hla : 0 < la.length
          · rw [if_pos (by simp; omega)]
            have hd1 := chg_drew w' NoS
            have hptd : w'.drew.cell? ⟨pt, 0, none⟩ = some (.slice av la.length cv) := hd1.sameOld.cell hpt
            refine wSome_of rfl ⟨av, la.length, cv, hpt, wSome_of rfl ⟨av, la.length, cv, hptd, x2, hd1.sameOld.cell (by rw [cellAt hP, hC]; rfl), ?_⟩⟩
            have hidx : ∃ t : Nat, t < la.length ∧ Int.tmod (IntKind.wrap .i64 (Int.tmod x2 (la.length : Int) + (la.length : Int))) (la.length : Int) = (t : Int) := by
              have h1 := Int.tmod_lt_of_pos x2 (b := (la.length : Int)) (by omega)
              have h2 := Int.lt_tmod_of_pos x2 (b := (la.length : Int)) (by omega)
              rw [i64w _ (by omega) (by omega)]
              have h3 := Int.tmod_lt_of_pos (x2.tmod la.length + la.length) (b := (la.length : Int)) (by omega)
              have h4 := Int.tmod_nonneg (la.length : Int) (a := x2.tmod la.length + la.length) (by omega)
              exact ⟨((x2.tmod la.length + la.length).tmod la.length).toNat, by omega, by omega⟩
            obtain ⟨t, ht, et⟩ := hidx
            rw [et]
            obtain ⟨A, c2', rv, e2, hcell, hrow⟩ := hP.sy.get hP.l ht
            injection e2 with e2 _ e3
            subst e2 e3
            obtain ⟨ra, rc, rfl, _⟩ := id hrow
            refine ⟨by omega, by omega, by omega, by omega, wSome_of rfl ⟨ra, la[t].length, rc, by rw [Int.toNat_natCast, Nat.mul_one]; exact hd1.sameOld.cell hcell, ?_⟩⟩
            obtain ⟨hPd, hkd⟩ := hP.quiet hd1
            exact ⟨(ra, la[t].length, rc), ⟨rfl, trivial⟩, la[t], hPd, hkd _ _ hrow, by have := hd _ (List.getElem_mem ht); omega⟩
          · rw [if_neg (by simp at hla ⊢; exact hla)]
            exact ⟨(a4, n4, c4), ⟨rfl, trivial⟩, bs, hP, hRow, hB2⟩
        · rw [if_neg c2]
          exact ⟨(a4, n4, c4), ⟨rfl, trivial⟩, bs, hP, hRow, hB2⟩
    · rw [if_neg cs]
      by_cases e4 : (x1 == 4) = true
      · rw [if_pos e4]
        refine Calls.then (hP.sy.cameO hP.mi) ?_
        rintro v w2 ⟨X2, F2, s2, hk2, hx2, hc2, a2, c2, us2, rfl, ho2, hb2, hn2⟩
        have h2 := hP.stepi s2 hx2 hc2
        refine ⟨_, _, _, rfl, ?_⟩
        refine Calls.then (h2.sy.rcameO h2.mj) ?_
        rintro v w3 ⟨X3, F3, s3, hk3, hx3, hc3, a3, c3, us3, rfl, ho3, hb3, hn3⟩
        have h3 := h2.stepj s3 hx3 hc3
        refine ⟨_, _, _, rfl, ?_⟩
        have hfl := hg.ok.fresh
        -- rows that came are bounded by what they came in
        have hrl3 : ∀ l ∈ m1.fresh, l.length ≤ 1099511627776 := fun l hl => by have := hg.fr l hl; omega
        refine Calls.then (All_ok (c := c2) (c2 := c3) (ho2.chg hc3 fun k' hk' hF => hn2 k' hk' j hF).reads (hk3.rows hb2) ho3.reads hb3 (by omega) (by omega) hrl3 hrl3) ?_
        rintro v w4 ⟨rfl, hc4⟩
        obtain ⟨h4, _⟩ := h3.quiet hc4
        exact ⟨_, rfl, by simp, _, _, _, _, _, _, _, _, _, h4, hg.came.more (by omega), by omega, hd⟩
      rw [if_neg e4]
      by_cases c5 : (x1 == 5) = true
      · rw [if_pos c5]
        refine ⟨(N : Int), by rw [cellAt hP, hC]; rfl, ?_⟩
        refine Calls.then (hP.sy.reset (ep := N) hP.mi) ?_
        rintro v w2 ⟨rfl, X2, F2, s2, hk2, hx2, hc2⟩
        have h2 := hP.stepi s2 hx2 hc2
        refine ⟨(N : Int), by rw [cellAt h2, hC]; rfl, ?_⟩
        refine Calls.then (h2.sy.rreset (ep := N) h2.mj) ?_
        rintro v w3 ⟨rfl, X3, F3, s3, hk3, hx3, hc3⟩
        have h3 := h2.stepj s3 hx3 hc3
        exact h3.lefts (Lm.good.new hN _) (by omega) hd
      rw [if_neg c5]
      exact hP.lefts (hg.more (by omega)) (by omega) hd
  · by_cases c2 : (x1 == 2) = true
    · rw [if_pos c2]
      exact ⟨_, ⟨rfl, trivial⟩, rfl⟩
    · rw [if_neg c2]
      exact ⟨_, ⟨rfl, trivial⟩, rfl⟩
end Go.Proofs.Ytooebmpjmcmkoaa.B
