/-
  LineComes: the plain law (what a round brings on), and the steps of its loop.
-/
import Derived.Test.YtooebmpjmcmkoaaLinZ
set_option maxRecDepth 100000
set_option linter.unusedVariables false
set_option linter.unusedSimpArgs false
namespace Go.Proofs.Ytooebmpjmcmkoaa.B
open Go Go.Proofs Go.Proofs.YtooebmpjmcmkoaaEng

theorem out_pos {m : Lm} (h : 0 < m.sent.length) (h4 : ∀ l ∈ m.sent, l.length ≤ 4096) : 0 < m.out := by
  unfold Lm.out
  have h1 := (fit_le m.sent 31 1 (by omega)).1
  unfold fitFrom
  have := h4 _ (List.getElem_mem h)
  rw [dif_pos h, if_pos (by simp [body]; omega)]
  exact h1
theorem feed_got : ∀ (ls : List (List UInt8)) (first i : Nat) (m : Lm), (feed first i ls m).got = m.got
  | [], first, i, m => rfl
  | l :: ls, first, i, m => by
    unfold feed
    rw [feed_got ls]
    split <;> rfl
theorem hear_got {E : Nat} {P Q x : List (List UInt8)} {m : Lm} {r : Nat} {d : Dgm} (h : Side E P Q x m r) (he : d.ep = E) (hc : d.come = r) : (m.hear d).got = r := by
  have hep := h.ep
  have hg := h.got
  have hr := h.r
  unfold Lm.hear
  rw [if_neg (by omega), feed_got]
  have hh : m.heard d = m := by unfold Lm.heard; rw [if_neg (by omega)]
  rw [hh, hc]
  unfold Lm.acks
  have hl : m.sent.length = P.length - m.got := by rw [h.sent, List.length_drop]
  by_cases hlt : m.got < r
  · rw [if_pos (by omega)]
  · rw [if_neg (by omega)]
    omega
theorem hear_come {E : Nat} {P Q x y : List (List UInt8)} {ma mb : Lm} (ha : Side E P Q y ma mb.come) (hb : Side E Q P x mb ma.come) (hP : P.length ≤ 60) (hP4 : ∀ l ∈ P, l.length ≤ 4096) (hg : ma.got = mb.come) (hlt : mb.come < P.length) :
    mb.come < (mb.hear ⟨ma.ep, ma.come, ma.got, ma.sent.take ma.out⟩).come := by
  have e1 := ha.ep
  have e2 := hb.ep
  unfold Lm.hear
  dsimp only
  rw [if_neg (by omega)]
  have hh : mb.heard ⟨ma.ep, ma.come, ma.got, ma.sent.take ma.out⟩ = mb := by unfold Lm.heard; rw [if_neg (by dsimp only; omega)]
  have hac : (mb.acks ma.come).come = mb.come := by unfold Lm.acks; split <;> rfl
  have hl : ma.sent.length = P.length - ma.got := by rw [ha.sent, List.length_drop]
  have ho := out_pos (m := ma) (by omega) (fun l hl => by rw [ha.sent] at hl; exact hP4 l (List.mem_of_mem_drop hl))
  have hle := (fit_le ma.sent 32 0 (Nat.zero_le _)).2.2
  have hlt2 : (ma.sent.take ma.out).length = ma.out := by rw [List.length_take]; exact Nat.min_eq_left hle
  have hol : ma.out ≤ ma.sent.length := hle
  rw [hh, feed_on _ _ 0 _ (by rw [hac]; omega) (by rw [hac, hlt2]; omega)]
  show mb.come < (mb.acks ma.come).come + _
  rw [hac, hlt2]
  omega

/-- how many rounds are left at most -/
def Rk (k N c g la lb : Nat) : Nat := 2 * k * (N - c) + if g < c then (k - lb) + k else k - la
def Go1 (k B t N c g la lb : Nat) : Prop := (c = N ∧ g = N) ∨ t + Rk k N c g la lb ≤ B
theorem go_step {k B t N c g la lb c' g' la' lb' : Nat} (h : Go1 k B t N c g la lb) (hg : g ≤ c) (hc : c ≤ N) (hla : la < k) (hlb : lb < k) (hc' : c ≤ c') (hN : c' ≤ N)
    (hA : (la + 1 < k ∧ la' = la + 1 ∧ c' = c) ∨ (la' = 0 ∧ (g = c → c < N → c < c'))) (hB : (lb + 1 < k ∧ lb' = lb + 1 ∧ g' = g) ∨ (lb' = 0 ∧ g' = c)) : Go1 k B (t + 1) N c' g' la' lb' := by
  rcases h with ⟨h1, h2⟩ | h
  · left
    omega
  · by_cases hd : c' = N ∧ g' = N
    · exact .inl hd
    · right
      unfold Rk at h ⊢
      by_cases hcc : c' = c
      · subst hcc
        generalize 2 * k * (N - c') = D at h ⊢
        by_cases h1 : g < c'
        · rw [if_pos h1] at h
          by_cases h2 : g' < c'
          · rw [if_pos h2]; omega
          · rw [if_neg h2]; omega
        · rw [if_neg h1] at h
          by_cases h2 : g' < c'
          · rw [if_pos h2]; omega
          · rw [if_neg h2]; omega
      · have hm : 2 * k * (N - c') + 2 * k ≤ 2 * k * (N - c) := by
          have : 2 * k * (N - c' + 1) ≤ 2 * k * (N - c) := Nat.mul_le_mul_left _ (by omega)
          rw [Nat.mul_add] at this
          omega
        have hr : (if g' < c' then k - lb' + k else k - la') ≤ 2 * k := by split <;> omega
        have hr0 : 1 ≤ if g < c then k - lb + k else k - la := by split <;> omega
        omega
theorem go_end {k B N c g la lb : Nat} (h : Go1 k B B N c g la lb) (hla : la < k) (hlb : lb < k) : c = N ∧ g = N := by
  rcases h with h | h
  · exact h
  · unfold Rk at h
    have hr0 : 1 ≤ if g < c then k - lb + k else k - la := by split <;> omega
    omega
theorem go_start {k N M : Nat} (hN : N ≤ M) (hk : 0 < k) : Go1 k (2 * k * (M + 1)) 0 N 0 0 0 0 := by
  right
  unfold Rk
  rw [if_neg (by omega)]
  have : 2 * k * N ≤ 2 * k * M := Nat.mul_le_mul_left _ hN
  rw [Nat.mul_add]
  simp only [Nat.sub_zero]
  omega

variable {E : Nat} {w0 w : World} {i0 i1 j0 j1 j2 j3 p q : Nat} {P Q : List (List UInt8)} {va vb vx vy : Value} {ka kb : Nat} {X : Nat → Prop} {Fs : Nat → Nat → Prop} {ms : Ents} {Ls : Lss} {ma mb : Lm} {la lb lx ly : List (List UInt8)}
theorem OrdP.swap (h : OrdP E w0 w i0 i1 j0 j1 j2 j3 p q P Q va vb vx vy ka kb X Fs ms Ls ma mb la lb lx ly) : OrdP E w0 w i1 i0 j1 j0 j3 j2 q p Q P vb va vy vx kb ka X Fs ms Ls mb ma lb la ly lx :=
  ⟨h.sy, h.m1, h.m0, h.l1, h.l0, h.l3, h.l2, h.ni.symm, h.n01.symm, h.n13, h.n12, h.n03, h.n02, h.n23.symm, h.sb, h.sa, h.db, h.da, h.kb, h.ka, h.e, h.ql, h.q4, h.pl, h.p4⟩
/-- one datagram comes, or is lost -/
theorem OrdP.one (h : OrdP E w0 w i0 i1 j0 j1 j2 j3 p q P Q va vb vx vy ka kb X Fs ms Ls ma mb la lb lx ly) {b l k : Nat} {rv : Value} {d : List UInt8} {wanted : Bool} (hb : w.heap[b]? = some (.cells #[rv] 31 (0, 0))) (hrow : RowIn w X rv d) (hd : Dg E Q d mb.come) (hl : l < k) (hk : k ≤ 1000) :
    Calls Try.prog 25 #[.pointer (some ⟨p, 0, none⟩), .slice (some ⟨b, 0, none⟩) 1 1, .bool wanted, .int .i64 (l : Int), .int .i64 (k : Int)] w (endW (fun v w' => ∃ X' Fs' ms' ma' l', v = .int .i64 ((l' : Nat) : Int) ∧
      OrdP E w0 w' i0 i1 j0 j1 j2 j3 p q P Q va vb vx vy ka kb X' Fs' ms' Ls ma' mb la lb lx ly ∧ Keeps w X w' X' ∧ (∀ k, X' k → X k ∨ w.heap.size ≤ k) ∧ Chg X w w' ∧ l' < k ∧
      ((l + 1 < k ∧ l' = l + 1 ∧ ma' = ma) ∨ (l' = 0 ∧ ma' = (ma.take d).2))) (fun _ _ => False)) := by
  refine F25_calls _ _ _ _ _ _ _ ?_
  delta F25
  rw [if_neg (by simp)]
  have hlen := hd.len
  obtain ⟨m, hm, hde, hs⟩ := hd
  have g : (ma.take d).1 = 0 ∧ Side E P Q ly (ma.take d).2 mb.come ∧ ma.come ≤ (ma.take d).2.come := by
    rw [hde, take_payload hm]
    exact ⟨rfl, h.sa.hear hs (by have := h.pl; omega) (by have := h.ql; omega)⟩
  obtain ⟨g1, g2, g3⟩ := g
  obtain ⟨hwf, hok⟩ := h.sa.wf h.e h.pl h.p4 h.ql
  obtain ⟨ra, rc, rfl, hrl, hr0, hrr, _⟩ := id hrow
  have take : ∀ {R : Value → World → Prop}, (∀ w', Next w0 w X Fs i0 (upd ms i0 (54, p, (ma.take d).2)) Ls w' → R (.int .i64 0) w') → ((0 : Int) ≤ 0 ∧ (0 : Int) < ((1 : Nat) : Int) ∧ wSome (some (⟨b, 0, none⟩ : Addr)) fun A => ∃ (a : Option Addr) (n c : Nat), w.cell? (addK A 0) = some (.slice a n c) ∧
      Calls Try.prog 19 #[.pointer (some ⟨p, 0, none⟩), .slice a n c] w (endW (fun v w' => ∃ x, v = .int .i64 x ∧ if (x != 0) = true then R (.int .i64 (-1)) w' else R (.int .i64 0) w') fun _ _ => False)) := by
    intro R hR
    refine ⟨by omega, by omega, wSome_of rfl ⟨_, _, _, by rw [addK_lit, cell_blk hb]; rfl, ?_⟩⟩
    refine Calls.then (h.sy.take h.m0 hok rfl hrl hrr (by omega)) ?_
    rintro v w' ⟨rfl, hn⟩
    rw [g1]
    refine ⟨_, rfl, ?_⟩
    rw [if_neg (by simp)]
    exact hR w' hn
  have done : ∀ w', Next w0 w X Fs i0 (upd ms i0 (54, p, (ma.take d).2)) Ls w' → ∃ X' Fs' ms' ma' l', (Value.int .i64 0 : Value) = .int .i64 ((l' : Nat) : Int) ∧
      OrdP E w0 w' i0 i1 j0 j1 j2 j3 p q P Q va vb vx vy ka kb X' Fs' ms' Ls ma' mb la lb lx ly ∧ Keeps w X w' X' ∧ (∀ k, X' k → X k ∨ w.heap.size ≤ k) ∧ Chg X w w' ∧ l' < k ∧
      ((l + 1 < k ∧ l' = l + 1 ∧ ma' = ma) ∨ (l' = 0 ∧ ma' = (ma.take d).2)) := by
    rintro w' ⟨X', F', h2, hk2, hx2, hc2⟩
    refine ⟨X', updF Fs i0 F', upd ms i0 (54, p, (ma.take d).2), (ma.take d).2, 0, rfl, { h with sy := h2, m0 := upd_same, m1 := ?_, sa := g2, sb := ?_, da := ?_ }, hk2, hx2, hc2.mono fun k _ hk => h.sy.st.fx i0 k hk, by omega, .inr ⟨rfl, rfl⟩⟩
    · rw [upd_other h.ni.symm]; exact h.m1
    · exact h.sb.more g3 g2.come
    · exact fun d hd => (h.da d hd).more g3
  cases wanted with
  | true =>
    rw [if_neg (by simp)]
    exact take (R := fun v w' => ∃ X' Fs' ms' ma' l', v = .int .i64 ((l' : Nat) : Int) ∧
      OrdP E w0 w' i0 i1 j0 j1 j2 j3 p q P Q va vb vx vy ka kb X' Fs' ms' Ls ma' mb la lb lx ly ∧ Keeps w X w' X' ∧ (∀ k, X' k → X k ∨ w.heap.size ≤ k) ∧ Chg X w w' ∧ l' < k ∧
      ((l + 1 < k ∧ l' = l + 1 ∧ ma' = ma) ∨ (l' = 0 ∧ ma' = (ma.take d).2))) done
  | false =>
    rw [if_pos (by simp)]
    rw [i64w ((k : Int) - 1) (by omega) (by omega)]
    by_cases hlk : l + 1 < k
    · rw [if_pos (by simp; omega)]
      refine ⟨X, Fs, ms, ma, l + 1, ?_, h, fun _ _ h => h, fun _ h => .inl h, Chg.refl _ _, hlk, .inl ⟨hlk, rfl, rfl⟩⟩
      rw [i64w _ (by omega) (by omega)]; rfl
    · rw [if_neg (by simp; omega)]
      exact take (R := fun v w' => ∃ X' Fs' ms' ma' l', v = .int .i64 ((l' : Nat) : Int) ∧
      OrdP E w0 w' i0 i1 j0 j1 j2 j3 p q P Q va vb vx vy ka kb X' Fs' ms' Ls ma' mb la lb lx ly ∧ Keeps w X w' X' ∧ (∀ k, X' k → X k ∨ w.heap.size ≤ k) ∧ Chg X w w' ∧ l' < k ∧
      ((l + 1 < k ∧ l' = l + 1 ∧ ma' = ma) ∨ (l' = 0 ∧ ma' = (ma.take d).2))) done
theorem OrdP.came (h : OrdP E w0 w i0 i1 j0 j1 j2 j3 p q P Q va vb vx vy ka kb X Fs ms Ls ma mb la lb lx ly) :
    Calls Try.prog 15 #[.pointer (some ⟨p, 0, none⟩)] w (endW (fun v w' => ∃ a n c, v = .slice a n c ∧ ∀ {K : Value → World → Prop} {Ex : PanW},
      (∀ a' n' c' w2, (∃ X' Fs' ms' Ls', OrdP E w0 w2 i0 i1 j0 j1 j2 j3 p q P Q va vb vx (.slice a' n' c') ka kb X' Fs' ms' Ls' { ma with fresh := [] } mb la lb lx (ly ++ ma.fresh)) → K (.slice a' n' c') w2) → runV Try.prog (Builtin.append_ #[30, 30] 30 #[vy, .slice a n c]) w' K Ex) (fun _ _ => False)) := by
  refine Calls.then (h.sy.came h.m0) ?_
  rintro v w1 ⟨X1, F1, h1, hk1, hx1, hc1, a, c, us, rfl, ha0, hr1, hb1⟩
  refine ⟨_, _, _, rfl, ?_⟩
  intro K Ex hK
  have hlen : (ly ++ ma.fresh).length ≤ 60 := by
    rw [h.sa.told, List.length_take]
    have := h.ql
    omega
  refine h1.push h.l3 hr1 hb1 rfl ha0 (by rw [List.length_append] at hlen; omega) ?_
  rintro a' c' w2 ⟨X', F', h2, hk2, hx2, hc2⟩
  refine hK _ _ _ _ ⟨X', updF (updF Fs i0 F1) j3 F', upd ms i0 (54, p, { ma with fresh := [] }), updL Ls j3 (.slice a' (ly.length + ma.fresh.length) c', ly ++ ma.fresh), ?_⟩
  refine { h with sy := h2, m0 := upd_same, m1 := ?_, l0 := ?_, l1 := ?_, l2 := ?_, l3 := updL_same, sa := h.sa.came }
  · rw [upd_other h.ni.symm]; exact h.m1
  · rw [updL_other h.n03]; exact h.l0
  · rw [updL_other h.n13]; exact h.l1
  · rw [updL_other h.n23]; exact h.l2
theorem OrdP.told (h : OrdP E w0 w i0 i1 j0 j1 j2 j3 p q P Q va vb vx vy ka kb X Fs ms Ls ma mb la lb lx ly) : ∃ a c us, vy = .slice a ly.length c ∧ Reads w a us ∧ BRows w X us ly := by
  obtain ⟨a1, c1, us, e, hr, hb, _⟩ := h.sy.form h.l3
  exact ⟨a1, c1, us, e, hr, hb⟩
theorem OrdP.tick (h : OrdP E w0 w i0 i1 j0 j1 j2 j3 p q P Q va vb vx vy ka kb X Fs ms Ls ma mb la lb lx ly) :
    Calls Try.prog 20 #[.pointer (some ⟨p, 0, none⟩)] w (endW (Told w X (S.sealed ma.payload)) (fun _ _ => False)) ∧ Dg E P (S.sealed ma.payload) ma.come ∧ ma.wf := by
  obtain ⟨hwf, hok⟩ := h.sa.wf h.e h.pl h.p4 h.ql
  exact ⟨h.sy.tick h.m0 hwf.sent hwf.rows, ⟨ma, hwf, rfl, h.sa.tick⟩, hwf⟩
theorem _root_.Go.Proofs.YtooebmpjmcmkoaaEng.Reads.chg' {w w' : World} {a : Option Addr} {vs : List Value} (h : Reads w a vs) (hc : Chg NoS w w') : Reads w' a vs := h.chg hc fun _ _ x => x
theorem OrdP.start {E : Nat} {w0 w : World} {X : Nat → Prop} {ms : Ents} {p q : Nat} {P Q : List (List UInt8)} (h : Ent w0 w X ms) (m0 : ms 0 = some (54, p, eA E P)) (m1 : ms 1 = some (54, q, eA E Q)) (hm : ∀ j, 2 ≤ j → ms j = none) (hE : E < 4294967296)
    (hp : P.length ≤ 60) (hp4 : ∀ l ∈ P, l.length ≤ 4096) (hq : Q.length ≤ 60) (hq4 : ∀ l ∈ Q, l.length ≤ 4096) :
    ∃ X Fs ms Ls, OrdP E w0 w 0 1 10 11 12 13 p q P Q (.slice none 0 0) (.slice none 0 0) (.slice none 0 0) (.slice none 0 0) 0 0 X Fs ms Ls (eA E P) (eA E Q) [] [] [] [] := by
  obtain ⟨Fs, h⟩ := h
  have h0 : Sys w0 w X Fs ms (fun _ => none) := ⟨h, fun i v l hi => by cases hi⟩
  have h1 := ((((h0.nil (i := 10) (hm 10 (by omega))).nil (i := 11) (hm 11 (by omega))).nil (i := 12) (hm 12 (by omega))).nil (i := 13) (hm 13 (by omega)))
  exact ⟨X, Fs, ms, _, h1, m0, m1, rfl, rfl, rfl, rfl, by decide, by decide, by decide, by decide, by decide, by decide, by decide, eA_side 0 (Nat.zero_le _), eA_side 0 (Nat.zero_le _), (fun d hd => by cases hd), (fun d hd => by cases hd), Nat.zero_le _, Nat.zero_le _, hE, hp, hp4, hq, hq4⟩
theorem max_run {x y : Nat} {w : World} {K : Value → World → Prop} {E : PanW} (hK : K (.int .i64 ((max x y : Nat) : Int)) w) : runV Try.prog (Builtin.max_ #[3, 3] 3 #[.int .i64 (x : Int), .int .i64 (y : Int)]) w K E := by
  have hrun : (Builtin.max_ #[3, 3] 3 #[.int .i64 (x : Int), .int .i64 (y : Int)]).run Try.prog w = .ok (.int .i64 ((max x y : Nat) : Int)) w := by
    have h1 : (Builtin.max_ #[3, 3] 3 #[.int .i64 (x : Int), .int .i64 (y : Int)]).run Try.prog w = .ok (.int .i64 (if (y : Int) > x then (y : Int) else x)) w := rfl
    rw [h1]
    congr 2
    split <;> omega
  unfold runV
  rw [hrun]
  exact hK
theorem seven (k : Int) : ∃ m : Nat, 0 < m ∧ m ≤ 7 ∧ IntKind.wrap .i64 (1 + Int.tmod (IntKind.wrap .i64 (Int.tmod k 7 + 7)) 7) = (m : Int) := by
  have h1 := Int.tmod_lt_of_pos k (b := (7 : Int)) (by omega)
  have h2 := Int.lt_tmod_of_pos k (b := (7 : Int)) (by omega)
  rw [i64w (Int.tmod k 7 + 7) (by omega) (by omega)]
  have h3 := Int.tmod_lt_of_pos (k.tmod 7 + 7) (b := (7 : Int)) (by omega)
  have h4 := Int.tmod_nonneg (7 : Int) (a := k.tmod 7 + 7) (by omega)
  rw [i64w _ (by omega) (by omega)]
  exact ⟨(1 + (k.tmod 7 + 7).tmod 7).toNat, by omega, by omega, by omega⟩
end Go.Proofs.Ytooebmpjmcmkoaa.B
