/-
  LineOrder: the state of its loop, and what every step does to it.
-/
import Derived.Test.YtooebmpjmcmkoaaLinX
import Derived.Test.YtooebmpjmcmkoaaBE
set_option maxRecDepth 100000
set_option linter.unusedVariables false
set_option linter.unusedSimpArgs false
namespace Go.Proofs.Ytooebmpjmcmkoaa.B
open Go Go.Proofs Go.Proofs.YtooebmpjmcmkoaaEng

theorem Side.wf {E : Nat} {P Q x : List (List UInt8)} {m : Lm} {r : Nat} (h : Side E P Q x m r) (hE : E < 4294967296) (hP : P.length ≤ 60) (hP4 : ∀ l ∈ P, l.length ≤ 4096) (hQ : Q.length ≤ 60) : m.wf ∧ m.ok 1000000000 := by
  have h1 := h.got
  have h2 := h.r
  have h3 := h.come
  have h4 : m.sent.length ≤ 60 := by rw [h.sent, List.length_drop]; omega
  have h5 : m.fresh.length ≤ 60 := by
    have := congrArg List.length h.told
    rw [List.length_append, List.length_take] at this
    omega
  have h6 := h.ep
  exact ⟨⟨by omega, by omega, by omega, by omega, fun l hl => by
    rw [h.sent] at hl
    have := hP4 l (List.mem_of_mem_drop hl)
    omega⟩, ⟨by omega, by omega, by omega, by omega, by omega⟩⟩
def Dg (E : Nat) (P : List (List UInt8)) (d : List UInt8) (r : Nat) : Prop := ∃ m : Lm, m.wf ∧ d = S.sealed m.payload ∧ Sent E P ⟨m.ep, m.come, m.got, m.sent.take m.out⟩ r
theorem Dg.more {E : Nat} {P : List (List UInt8)} {d : List UInt8} {r r' : Nat} (h : Dg E P d r) (hr : r ≤ r') : Dg E P d r' := by
  obtain ⟨m, h1, h2, h3⟩ := h
  exact ⟨m, h1, h2, h3.more hr⟩
theorem Dg.len {E : Nat} {P : List (List UInt8)} {d : List UInt8} {r : Nat} (h : Dg E P d r) : 4 ≤ d.length ∧ d.length ≤ 20000 := by
  obtain ⟨m, h1, rfl, h3⟩ := h
  rw [S.sealed_length]
  have := (payload_len m).2
  omega

structure OrdP (E : Nat) (w0 w : World) (i0 i1 j0 j1 j2 j3 p q : Nat) (P Q : List (List UInt8)) (va vb vx vy : Value) (ka kb : Nat) (X : Nat → Prop) (Fs : Nat → Nat → Prop) (ms : Ents) (Ls : Lss) (ma mb : Lm) (la lb lx ly : List (List UInt8)) : Prop where
  sy : Sys w0 w X Fs ms Ls
  m0 : ms i0 = some (54, p, ma)
  m1 : ms i1 = some (54, q, mb)
  l0 : Ls j0 = some (va, la)
  l1 : Ls j1 = some (vb, lb)
  l2 : Ls j2 = some (vx, lx)
  l3 : Ls j3 = some (vy, ly)
  ni : i0 ≠ i1
  n01 : j0 ≠ j1
  n02 : j0 ≠ j2
  n03 : j0 ≠ j3
  n12 : j1 ≠ j2
  n13 : j1 ≠ j3
  n23 : j2 ≠ j3
  sa : Side E P Q ly ma mb.come
  sb : Side E Q P lx mb ma.come
  da : ∀ d ∈ la, Dg E P d ma.come
  db : ∀ d ∈ lb, Dg E Q d mb.come
  ka : la.length ≤ ka
  kb : lb.length ≤ kb
  e : E < 4294967296
  pl : P.length ≤ 60
  p4 : ∀ l ∈ P, l.length ≤ 4096
  ql : Q.length ≤ 60
  q4 : ∀ l ∈ Q, l.length ≤ 4096
def Ord (E : Nat) (w0 : World) (i0 i1 j0 j1 j2 j3 p q : Nat) (P Q : List (List UInt8)) (va vb vx vy : Value) (ka kb : Nat) (w : World) : Prop :=
  ∃ X Fs ms Ls ma mb la lb lx ly, OrdP E w0 w i0 i1 j0 j1 j2 j3 p q P Q va vb vx vy ka kb X Fs ms Ls ma mb la lb lx ly
variable {E : Nat} {w0 w : World} {i0 i1 j0 j1 j2 j3 p q : Nat} {P Q : List (List UInt8)} {va vb vx vy : Value} {ka kb : Nat}
theorem Ord.swap (h : Ord E w0 i0 i1 j0 j1 j2 j3 p q P Q va vb vx vy ka kb w) : Ord E w0 i1 i0 j1 j0 j3 j2 q p Q P vb va vy vx kb ka w := by
  obtain ⟨X, Fs, ms, Ls, ma, mb, la, lb, lx, ly, h⟩ := h
  exact ⟨X, Fs, ms, Ls, mb, ma, lb, la, ly, lx, h.sy, h.m1, h.m0, h.l1, h.l0, h.l3, h.l2, h.ni.symm, h.n01.symm, h.n13, h.n12, h.n03, h.n02, h.n23.symm, h.sb, h.sa, h.db, h.da, h.kb, h.ka, h.e, h.ql, h.q4, h.pl, h.p4⟩
theorem Ord.quiet {w' : World} (h : Ord E w0 i0 i1 j0 j1 j2 j3 p q P Q va vb vx vy ka kb w) (hc : Chg NoS w w') : Ord E w0 i0 i1 j0 j1 j2 j3 p q P Q va vb vx vy ka kb w' := by
  obtain ⟨X, Fs, ms, Ls, ma, mb, la, lb, lx, ly, h⟩ := h
  exact ⟨X, Fs, ms, Ls, ma, mb, la, lb, lx, ly, { h with sy := (h.sy.quiet hc).1 }⟩
theorem Ord.ch (h : Ord E w0 i0 i1 j0 j1 j2 j3 p q P Q va vb vx vy ka kb w) : Chg NoS w0 w := by
  obtain ⟨X, Fs, ms, Ls, ma, mb, la, lb, lx, ly, h⟩ := h
  exact h.sy.st.ch
theorem Ord.wide {ka' kb' : Nat} (h : Ord E w0 i0 i1 j0 j1 j2 j3 p q P Q va vb vx vy ka kb w) (h1 : ka ≤ ka') (h2 : kb ≤ kb') : Ord E w0 i0 i1 j0 j1 j2 j3 p q P Q va vb vx vy ka' kb' w := by
  obtain ⟨X, Fs, ms, Ls, ma, mb, la, lb, lx, ly, h⟩ := h
  exact ⟨X, Fs, ms, Ls, ma, mb, la, lb, lx, ly, { h with ka := Nat.le_trans h.ka h1, kb := Nat.le_trans h.kb h2 }⟩
theorem Ord.tick (h : Ord E w0 i0 i1 j0 j1 j2 j3 p q P Q va vb vx vy ka kb w) (hk : ka ≤ 1000) :
    Calls Try.prog 20 #[.pointer (some ⟨p, 0, none⟩)] w (endW (fun v w' => ∃ a n c, v = .slice a n c ∧ ∀ {K : Value → World → Prop} {Ex : PanW},
      (∀ a' n' c' w2, Ord E w0 i0 i1 j0 j1 j2 j3 p q P Q (.slice a' n' c') vb vx vy (ka + 1) kb w2 → K (.slice a' n' c') w2) → runV Try.prog (Builtin.append_ #[30, 30] 30 #[va, .slice a n c]) w' K Ex) (fun _ _ => False)) := by
  obtain ⟨X, Fs, ms, Ls, ma, mb, la, lb, lx, ly, h⟩ := h
  obtain ⟨hwf, hok⟩ := h.sa.wf h.e h.pl h.p4 h.ql
  refine Calls.then (h.sy.tick h.m0 hwf.sent hwf.rows) ?_
  rintro v w1 ⟨hc1, b, rv, rfl, hbs, hbl, hrow⟩
  obtain ⟨h1, hk1⟩ := h.sy.quiet hc1
  refine ⟨_, _, _, rfl, ?_⟩
  intro K Ex hK
  refine h1.push h.l0 (us := [rv]) (ns := [S.sealed ma.payload]) (reads_lit hbl) ⟨hrow, trivial⟩ rfl (fun e => by cases e) (by have := h.ka; simp; omega) ?_
  rintro a' c' w2 ⟨X', F', h2, hk2, hx2, hc2⟩
  refine hK _ _ _ _ ⟨X', updF Fs j0 F', ms, updL Ls j0 (.slice a' (la.length + 1) c', la ++ [S.sealed ma.payload]), ma, mb, la ++ [S.sealed ma.payload], lb, lx, ly, ?_⟩
  refine { h with sy := h2, l0 := updL_same, l1 := ?_, l2 := ?_, l3 := ?_, da := ?_, ka := ?_ }
  · rw [updL_other h.n01.symm]; exact h.l1
  · rw [updL_other h.n02.symm]; exact h.l2
  · rw [updL_other h.n03.symm]; exact h.l3
  · intro d hd
    rcases List.mem_append.1 hd with hd | hd
    · exact h.da d hd
    · simp at hd
      subst hd
      exact ⟨ma, hwf, rfl, h.sa.tick⟩
  · have := h.ka
    simp
    omega
/-- what a datagram that comes does -/
theorem OrdP.hear {X : Nat → Prop} {Fs : Nat → Nat → Prop} {ms : Ents} {Ls : Lss} {ma mb : Lm} {la lb lx ly : List (List UInt8)} {d : List UInt8}
    (h : OrdP E w0 w i0 i1 j0 j1 j2 j3 p q P Q va vb vx vy ka kb X Fs ms Ls ma mb la lb lx ly) (hd : d ∈ lb) : (ma.take d).1 = 0 ∧ Side E P Q ly (ma.take d).2 mb.come ∧ ma.come ≤ (ma.take d).2.come := by
  obtain ⟨m, hm, rfl, hs⟩ := h.db d hd
  rw [take_payload hm]
  exact ⟨rfl, h.sa.hear hs (by have := h.pl; omega) (by have := h.ql; omega)⟩
theorem Ord.took {X : Nat → Prop} {Fs : Nat → Nat → Prop} {ms : Ents} {Ls : Lss} {ma ma' mb : Lm} {la lb lx ly : List (List UInt8)} {w' : World}
    (h : OrdP E w0 w i0 i1 j0 j1 j2 j3 p q P Q va vb vx vy ka kb X Fs ms Ls ma mb la lb lx ly) (hs : Side E P Q ly ma' mb.come) (hle : ma.come ≤ ma'.come) (hn : Next w0 w X Fs i0 (upd ms i0 (54, p, ma')) Ls w') :
    Ord E w0 i0 i1 j0 j1 j2 j3 p q P Q va vb vx vy ka kb w' := by
  obtain ⟨X', F', h2, hk2, hx2, hc2⟩ := hn
  refine ⟨X', updF Fs i0 F', upd ms i0 (54, p, ma'), Ls, ma', mb, la, lb, lx, ly, { h with sy := h2, m0 := upd_same, m1 := ?_, sa := hs, sb := ?_, da := ?_ }⟩
  · rw [upd_other h.ni.symm]; exact h.m1
  · exact h.sb.more hle hs.come
  · exact fun d hd => (h.da d hd).more hle
theorem Ord.take {b : Option Addr} {n c j : Nat} (h : Ord E w0 i0 i1 j0 j1 j2 j3 p q P Q va (.slice b n c) vx vy ka kb w) (hj : j < n) :
    ∃ A ra rn rc, b = some A ∧ w.cell? (addK A j) = some (.slice ra rn rc) ∧
      Calls Try.prog 19 #[.pointer (some ⟨p, 0, none⟩), .slice ra rn rc] w (endW (fun v w' => v = .int .i64 0 ∧ Ord E w0 i0 i1 j0 j1 j2 j3 p q P Q va (.slice b n c) vx vy ka kb w') (fun _ _ => False)) := by
  obtain ⟨X, Fs, ms, Ls, ma, mb, la, lb, lx, ly, h⟩ := h
  obtain ⟨b1, c1, us1, e1, _⟩ := h.sy.form h.l1
  injection e1 with e1 e2 e3
  subst e2
  obtain ⟨A, c2, rv, e4, hcell, hrow⟩ := h.sy.get h.l1 hj
  injection e4 with e4 _ _
  have hmem := List.getElem_mem hj
  have hlen := (h.db _ hmem).len
  obtain ⟨g1, g2, g3⟩ := h.hear hmem
  obtain ⟨ra, rc, rfl, hrl, hr0, hrr, _⟩ := id hrow
  refine ⟨A, ra, _, rc, e4, hcell, ?_⟩
  obtain ⟨hwf, hok⟩ := h.sa.wf h.e h.pl h.p4 h.ql
  refine Calls.then (h.sy.take h.m0 hok rfl hrl hrr (by omega)) ?_
  rintro v w' ⟨rfl, hn⟩
  rw [g1]
  exact ⟨rfl, Ord.took h g2 g3 hn⟩
theorem Ord.bad {b : Option Addr} {n c j : Nat} (h : Ord E w0 i0 i1 j0 j1 j2 j3 p q P Q va (.slice b n c) vx vy ka kb w) (hj : j < n) :
    ∃ A ra rn rc, b = some A ∧ (w.alloc (.cells #[] 5)).cell? (addK A j) = some (.slice ra rn rc) ∧ 4 ≤ rn ∧ rn ≤ 20000 ∧ ∀ {K : Value → World → Prop} {Ex : PanW},
      (∀ a' c' w2, (∀ i, i < rn → ∃ B x, a' = some B ∧ w2.cell? (addK B i) = some (.int .u8 x) ∧ ∀ (d : BitVec 8) (K2 : World → Prop), d ≠ 0#8 →
        (∀ w3, Calls Try.prog 19 #[.pointer (some ⟨p, 0, none⟩), .slice a' rn c'] w3 (endW (fun v w' => ∃ z, v = .int .i64 z ∧ z ≠ 0 ∧ Ord E w0 i0 i1 j0 j1 j2 j3 p q P Q va (.slice b n c) vx vy ka kb w') (fun _ _ => False)) → K2 w3) →
        setW w2 (addK B i) (.int .u8 (IntKind.wrap .u8 ((BitVec.ofInt 8 x ^^^ d).toNat : Int))) K2) → K (.slice a' rn c') w2) →
      runV Try.prog (Builtin.append_ #[31, 31] 31 #[.slice (some ⟨w.heap.size, 0, none⟩) 0 0, .slice ra rn rc]) (w.alloc (.cells #[] 5)) K Ex := by
  obtain ⟨X, Fs, ms, Ls, ma, mb, la, lb, lx, ly, h⟩ := h
  obtain ⟨b1, c1, us1, e1, _⟩ := h.sy.form h.l1
  injection e1 with e1 e2 e3
  subst e2
  obtain ⟨A, c2, rv, e4, hcell, hrow⟩ := h.sy.get h.l1 hj
  injection e4 with e4 _ _
  have hmem := List.getElem_mem hj
  have hlen := (h.db _ hmem).len
  obtain ⟨m, hm, hd, hs⟩ := h.db _ hmem
  obtain ⟨ra, rc, rfl, hrl, hr0, hrr, _⟩ := id hrow
  refine ⟨A, ra, _, rc, e4, (chg_alloc w (.cells #[] 5) NoS).sameOld.cell hcell, hlen.1, hlen.2, ?_⟩
  intro K Ex hK
  refine bytes_fresh (base := w.heap.size) S.bT Try.underlying31 rfl hrr hr0 (by omega) (Nat.le_refl _) ?_
  intro a' c' w2 ho2 hc2 hb2
  refine hK a' c' w2 ?_
  intro i hi
  obtain ⟨h2, hk2⟩ := h.sy.quiet hc2
  obtain ⟨hr2, hl2, hn2, _, hcc2⟩ := own_reads_v ho2
  obtain ⟨B, hB, hcl⟩ := hr2 _ _ (vals_get hi)
  obtain ⟨a3, c3, hf, _, ha'⟩ := own_form ho2
  injection hf with hf1 _ _
  subst hf1
  obtain ⟨g, rfl⟩ := ha' B hB
  subst hB
  refine ⟨_, _, rfl, hcl, ?_⟩
  intro d K2 hd0 hK2
  rw [u8b, ofInt_nat, wrap8, addK_lit, Nat.zero_add]
  refine setW_own (j := i) (v := .int .u8 ((lb[j][i].toBitVec ^^^ d).toNat : Int)) ho2 (by omega) rfl ?_
  intro w3 ho3 hc3 hs3
  refine hK2 w3 ?_
  have hg := (own_lt' ho2 (k := g) rfl).2
  have hc23 : Chg NoS w w3 := hc2.trans2 hc3 fun k hk e => by
    have : k = g := e
    omega
  obtain ⟨h3, hk3⟩ := h.sy.quiet hc23
  have ho3' : w3.ownsRow w.heap.size 5 1 (.slice (some ⟨g, 0, none⟩) lb[j].length c') lb[j].length (vals (lb[j].set i (UInt8.ofBitVec (lb[j][i].toBitVec ^^^ d)))) := by
    have e : vals (lb[j].set i (UInt8.ofBitVec (lb[j][i].toBitVec ^^^ d))) = (vals lb[j]).set i (.int .u8 ((lb[j][i].toBitVec ^^^ d).toNat : Int)) := by
      unfold vals
      rw [List.map_set]
      rfl
    rw [e]
    exact ho3
  obtain ⟨hr3, hl3, hn3, _, hcc3⟩ := own_reads_v ho3'
  obtain ⟨hwf, hok⟩ := h.sa.wf h.e h.pl h.p4 h.ql
  refine Calls.then (h3.take h.m0 hok hl3 hcc3 hr3 (by omega)) ?_
  rintro v w4 ⟨rfl, hn⟩
  have key : ma.take (lb[j].set i (UInt8.ofBitVec (lb[j][i].toBitVec ^^^ d))) = (50, ma) := by
    have hi' : i < (S.sealed m.payload).length := by rw [← hd]; exact hi
    have := take_bad hi' hd0 ma
    have e2 : lb[j][i] = (S.sealed m.payload)[i] := List.getElem_of_eq hd hi
    rw [e2, hd]
    exact this
  rw [key] at hn ⊢
  exact ⟨_, rfl, by show (50 : Int) ≠ 0; omega, Ord.took (h := { h with sy := h3 }) h.sa (Nat.le_refl _) hn⟩
theorem Ord.came (h : Ord E w0 i0 i1 j0 j1 j2 j3 p q P Q va vb vx vy ka kb w) :
    Calls Try.prog 15 #[.pointer (some ⟨p, 0, none⟩)] w (endW (fun v w' => ∃ a n c, v = .slice a n c ∧ ∀ {K : Value → World → Prop} {Ex : PanW},
      (∀ a' n' c' w2, Ord E w0 i0 i1 j0 j1 j2 j3 p q P Q va vb vx (.slice a' n' c') ka kb w2 → K (.slice a' n' c') w2) → runV Try.prog (Builtin.append_ #[30, 30] 30 #[vy, .slice a n c]) w' K Ex) (fun _ _ => False)) := by
  obtain ⟨X, Fs, ms, Ls, ma, mb, la, lb, lx, ly, h⟩ := h
  refine Calls.then (h.sy.came h.m0) ?_
  rintro v w1 ⟨X1, F1, h1, hk1, hx1, hc1, a, c, us, rfl, ha0, hr1, hb1⟩
  refine ⟨_, _, _, rfl, ?_⟩
  intro K Ex hK
  have hlen : (ly ++ ma.fresh).length ≤ 60 := by
    rw [h.sa.told, List.length_take]
    have := h.ql
    omega
  refine h1.push h.l3 hr1 hb1 rfl ha0 (by rw [List.length_append] at hlen; omega) ?_
  rintro a' c' w2 ⟨X', F', h2, hk2, hx2, hc2⟩
  refine hK _ _ _ _ ⟨X', updF (updF Fs i0 F1) j3 F', upd ms i0 (54, p, { ma with fresh := [] }), updL Ls j3 (.slice a' (ly.length + ma.fresh.length) c', ly ++ ma.fresh), { ma with fresh := [] }, mb, la, lb, lx, ly ++ ma.fresh, ?_⟩
  refine { h with sy := h2, m0 := upd_same, m1 := ?_, l0 := ?_, l1 := ?_, l2 := ?_, l3 := updL_same, sa := h.sa.came }
  · rw [upd_other h.ni.symm]; exact h.m1
  · rw [updL_other h.n03]; exact h.l0
  · rw [updL_other h.n13]; exact h.l1
  · rw [updL_other h.n23]; exact h.l2
/-- what was told is a beginning of what was put in -/
theorem Ord.told {a : Option Addr} {n c : Nat} (h : Ord E w0 i0 i1 j0 j1 j2 j3 p q P Q va vb vx (.slice a n c) ka kb w) : ∃ ly us X, n = ly.length ∧ Reads w a us ∧ BRows w X us ly ∧ n ≤ Q.length ∧ ly = Q.take n := by
  obtain ⟨X, Fs, ms, Ls, ma, mb, la, lb, lx, ly, h⟩ := h
  obtain ⟨a1, c1, us, e, hr, hb, _⟩ := h.sy.form h.l3
  injection e with e1 e2 e3
  subst e1 e2 e3
  have hlen := congrArg List.length h.sa.told
  rw [List.length_append, List.length_take] at hlen
  refine ⟨ly, us, X, rfl, hr, hb, by omega, ?_⟩
  have := congrArg (List.take ly.length) h.sa.told
  rw [List.take_left, List.take_take, Nat.min_eq_left (by omega)] at this
  exact this
end Go.Proofs.Ytooebmpjmcmkoaa.B
