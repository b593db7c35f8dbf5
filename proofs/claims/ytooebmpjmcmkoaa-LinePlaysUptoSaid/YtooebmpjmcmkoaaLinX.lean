/-
  line: a datagram with one byte changed does not open; several ends with rows of datagrams beside them.
-/
import Derived.Test.YtooebmpjmcmkoaaLinW
import Derived.Test.YtooebmpjmcmkoaaLinR
set_option maxRecDepth 100000
set_option linter.unusedVariables false
set_option linter.unusedSimpArgs false
namespace Go.Proofs.Ytooebmpjmcmkoaa.B
open Go Go.Proofs Go.Proofs.YtooebmpjmcmkoaaEng Go.Proofs.YtooebmpjmcmkoaaCrc

theorem run_set : ∀ (bs : List (BitVec 8)) (n : BitVec 32) (j : Nat) (x d : BitVec 8), bs[j]? = some x → run n (bs.set j (x ^^^ d)) = run n bs ^^^ sts (8 * (bs.length - j)) (d.setWidth 32)
  | [], n, j, x, d, h => by simp at h
  | y :: bs, n, 0, x, d, h => by
    simp only [List.getElem?_cons_zero, Option.some.injEq] at h
    subst h
    rw [List.set_cons_zero, run_cons, run_cons]
    have h1 := bst_xor n 0#32 y d
    rw [BitVec.xor_zero] at h1
    have h2 : bst 0#32 d = sts 8 (d.setWidth 32) := by unfold bst; rw [BitVec.zero_xor]
    rw [h1, h2, run_xor, ← sts_add]
    congr 2
    simp
    omega
  | y :: bs, n, j + 1, x, d, h => by
    simp only [List.getElem?_cons_succ] at h
    have hj : j < bs.length := (List.getElem?_eq_some_iff.1 h).1
    rw [List.set_cons_succ, run_cons, run_cons, run_set bs _ j x d h]
    congr 3
    simp
theorem last4 {bs : List UInt8} (h : 4 ≤ bs.length) : ∃ ds x y z u, bs = ds ++ [x, y, z, u] ∧ ds.length + 4 = bs.length := by
  have h1 : (bs.drop (bs.length - 4)).length = 4 := by rw [List.length_drop]; omega
  have h2 := List.take_append_drop (bs.length - 4) bs
  match hd : bs.drop (bs.length - 4), h1 with
  | [x, y, z, u], _ =>
    rw [hd] at h2
    exact ⟨_, x, y, z, u, h2.symm, by rw [List.length_take]; omega⟩
/-- one byte is changed: the seal tells it -/
theorem opened_bad {bs : List UInt8} {j : Nat} (hj : j < (S.sealed bs).length) {d : BitVec 8} (hd : d ≠ 0#8) :
    (opened ((S.sealed bs).set j (UInt8.ofBitVec ((S.sealed bs)[j].toBitVec ^^^ d)))).1 = 50 := by
  obtain ⟨x0, y0, z0, u0, hse, hso⟩ := S.opens_sealed bs
  have hrun0 : run (BitVec.allOnes 32) (S.bv (S.sealed bs)) = sts 32 (BitVec.allOnes 32) := by
    rw [hse, S.bv_append]
    exact (sealed_iff _ _ _ _ _).1 (of_decide_eq_true hso)
  have hlen0 := S.sealed_length bs
  generalize S.sealed bs = xs0 at *
  obtain ⟨ds, x, y, z, u, he, hdl⟩ := last4 (bs := xs0.set j (UInt8.ofBitVec (xs0[j].toBitVec ^^^ d))) (by rw [List.length_set]; omega)
  rw [he, opened_of, if_neg]
  intro ho
  have h1 := (sealed_iff _ _ _ _ _).1 (of_decide_eq_true ho)
  have h2 : run (BitVec.allOnes 32) (S.bv (xs0.set j (UInt8.ofBitVec (xs0[j].toBitVec ^^^ d)))) = sts 32 (BitVec.allOnes 32) := by rw [he, S.bv_append]; exact h1
  have h3 := run_set (S.bv xs0) (BitVec.allOnes 32) j xs0[j].toBitVec d (by simp [S.bv, hj])
  have h4 : S.bv (xs0.set j (UInt8.ofBitVec (xs0[j].toBitVec ^^^ d))) = (S.bv xs0).set j (xs0[j].toBitVec ^^^ d) := by
    unfold S.bv
    rw [List.map_set]
  rw [h4, h3, hrun0] at h2
  have h5 : sts (8 * ((S.bv xs0).length - j)) (d.setWidth 32) = 0#32 := by
    have := congrArg (fun x => sts 32 (BitVec.allOnes 32) ^^^ x) h2
    rw [← BitVec.xor_assoc, BitVec.xor_self, BitVec.zero_xor] at this
    exact this
  refine sts_ne _ (fun e => hd ?_) h5
  apply BitVec.eq_of_toNat_eq
  have := congrArg BitVec.toNat e
  rw [BitVec.toNat_setWidth] at this
  have hl := d.isLt
  simp at this ⊢
  omega
theorem take_bad {bs : List UInt8} {j : Nat} (hj : j < (S.sealed bs).length) {d : BitVec 8} (hd : d ≠ 0#8) (m : Lm) :
    m.take ((S.sealed bs).set j (UInt8.ofBitVec ((S.sealed bs)[j].toBitVec ^^^ d))) = (50, m) := by
  rw [take_cases, opened_bad hj hd, if_pos (by decide)]

/-! ### ends, and rows of rows beside them -/
def updF (Fs : Nat → Nat → Prop) (i : Nat) (F : Nat → Prop) : Nat → Nat → Prop := fun j => if j = i then F else Fs j
theorem updF_same {Fs : Nat → Nat → Prop} {i : Nat} {F : Nat → Prop} : updF Fs i F i = F := if_pos rfl
theorem updF_other {Fs : Nat → Nat → Prop} {i j : Nat} {F : Nat → Prop} (h : j ≠ i) : updF Fs i F j = Fs j := if_neg h
theorem Sts.step {w0 w w' : World} {X F' : Nat → Prop} {ms ms' : Ents} {Fs : Nat → Nat → Prop} (h : Sts w0 w X ms Fs) (i : Nat) (hms : ∀ j, j ≠ i → ms' j = ms j) (hi : ∀ t p m, ms' i = some (t, p, m) → t ≠ 31 ∧ EndAt t w' (orX X F') F' p m)
    (hc : Chg (Fs i) w w') (hf : ∀ k, F' k → Fs i k ∨ w.heap.size ≤ k) (hfl : ∀ k, F' k → k < w'.heap.size) : Sts w0 w' (orX X F') ms' (updF Fs i F') ∧ Keeps w X w' (orX X F') := by
  have hwide : ∀ k, k < w.heap.size → orX X F' k → X k := fun k hk hx => hx.elim id fun hx => (hf k hx).elim (fun hx => h.fx i k hx) fun hx => by omega
  have hsz := h.ch.size
  refine ⟨⟨h.ch.trans2 hc fun k hk hF => ?_, ?_, ?_, ?_, ?_⟩, ?_⟩
  · have := (h.xb k (h.fx i k hF)).1; omega
  · intro k hk
    rcases hk with hk | hk
    · have := h.xb k hk; have := hc.size; omega
    · refine ⟨?_, hfl k hk⟩
      rcases hf k hk with hx | hx
      · exact (h.xb k (h.fx i k hx)).1
      · omega
  · intro j t2 p2 m2 hj
    by_cases hji : j = i
    · subst hji
      rw [updF_same]
      exact hi _ _ _ hj
    · rw [updF_other hji]
      rw [hms j hji] at hj
      obtain ⟨ht2, he2⟩ := h.en j t2 p2 m2 hj
      refine ⟨ht2, (he2.wide hwide fun k hk => .inl (h.fx j k hk)).chg hc fun k hk hF => ⟨.inl (h.fx i k hF), fun hF2 => h.dj j i k hji hF2 hF⟩⟩
  · intro j k hk
    by_cases hji : j = i
    · subst hji; rw [updF_same] at hk; exact .inr hk
    · rw [updF_other hji] at hk; exact .inl (h.fx j k hk)
  · intro j1 j2 k hne h1 h2
    have key : ∀ j k, j ≠ i → F' k → Fs j k → False := fun j k hj hF hFj => by
      rcases hf k hF with hx | hx
      · exact h.dj j i k hj hFj hx
      · have := (h.xb k (h.fx j k hFj)).2; omega
    by_cases e1 : j1 = i
    · subst e1
      rw [updF_same] at h1
      rw [updF_other (Ne.symm hne)] at h2
      exact key j2 k (Ne.symm hne) h1 h2
    · rw [updF_other e1] at h1
      by_cases e2 : j2 = i
      · subst e2
        rw [updF_same] at h2
        exact key j1 k e1 h2 h1
      · rw [updF_other e2] at h2
        exact h.dj j1 j2 k hne h1 h2
  · intro v bs hr
    exact (hr.wide hwide).chg hc fun k _ hF => .inl (h.fx i k hF)
theorem Keeps.rows {w w' : World} {X X' : Nat → Prop} (hk : Keeps w X w' X') : ∀ {vs : List Value} {ls : List (List UInt8)}, BRows w X vs ls → BRows w' X' vs ls
  | [], [], h => trivial
  | v :: vs, l :: ls, h => ⟨hk _ _ h.1, Keeps.rows hk h.2⟩
  | [], _ :: _, h => h.elim
  | _ :: _, [], h => h.elim
structure Lst (base : Nat) (w : World) (X F : Nat → Prop) (v : Value) (ls : List (List UInt8)) : Prop where
  own : ∃ vs, w.ownsRow base 31 1 v ls.length vs ∧ BRows w X vs ls
  fp : ∀ k, v.ownBlock = some k → F k
theorem Lst.nil (base : Nat) (w : World) (X F : Nat → Prop) : Lst base w X F (.slice none 0 0) [] := ⟨⟨[], own_nil' _ _ _ _, trivial⟩, fun k hk => by simp [Value.ownBlock] at hk⟩
theorem Lst.chg {S : Nat → Prop} {base : Nat} {w w' : World} {X X' F F' : Nat → Prop} {v : Value} {ls : List (List UInt8)} (h : Lst base w X F v ls) (hc : Chg S w w') (hs : ∀ k, F k → ¬ S k) (hk : Keeps w X w' X') (hF : ∀ k, F k → F' k) : Lst base w' X' F' v ls := by
  obtain ⟨⟨vs, ho, hb⟩, hf⟩ := h
  exact ⟨⟨vs, own_of_chg ho hc fun k e => hs k (hf k e), hk.rows hb⟩, fun k e => hF k (hf k e)⟩
abbrev Lss := Nat → Option (Value × List (List UInt8))
def updL (Ls : Lss) (i : Nat) (e : Value × List (List UInt8)) : Lss := fun j => if j = i then some e else Ls j
theorem updL_same {Ls : Lss} {i : Nat} {e : Value × List (List UInt8)} : updL Ls i e i = some e := if_pos rfl
theorem updL_other {Ls : Lss} {i j : Nat} {e : Value × List (List UInt8)} (h : j ≠ i) : updL Ls i e j = Ls j := if_neg h
structure Sys (w0 w : World) (X : Nat → Prop) (Fs : Nat → Nat → Prop) (ms : Ents) (Ls : Lss) : Prop where
  st : Sts w0 w X ms Fs
  ls : ∀ i v l, Ls i = some (v, l) → ms i = none ∧ Lst w0.heap.size w X (Fs i) v l
variable {w0 w : World} {X : Nat → Prop} {Fs : Nat → Nat → Prop} {ms : Ents} {Ls : Lss} {i p : Nat} {t : TypeId} {m : Lm}
theorem Sys.quiet {w' : World} (h : Sys w0 w X Fs ms Ls) (hc : Chg NoS w w') : Sys w0 w' X Fs ms Ls ∧ Keeps w X w' X := by
  obtain ⟨h1, h2⟩ := h.st.quiet hc
  exact ⟨⟨h1, fun i v l hi => ⟨(h.ls i v l hi).1, (h.ls i v l hi).2.chg hc (fun k _ h => h) h2 fun k h => h⟩⟩, h2⟩
theorem Sys.nil (h : Sys w0 w X Fs ms Ls) (hi : ms i = none) : Sys w0 w X Fs ms (updL Ls i (.slice none 0 0, [])) :=
  ⟨h.st, fun j v l hj => by
    by_cases hji : j = i
    · subst hji
      rw [updL_same] at hj
      injection hj with hj
      injection hj with h1 h2
      subst h1 h2
      exact ⟨hi, Lst.nil _ _ _ _⟩
    · rw [updL_other hji] at hj
      exact h.ls j v l hj⟩
/-- what is left of an act: the state, and all rows that nobody writes -/
def Next (w0 w : World) (X : Nat → Prop) (Fs : Nat → Nat → Prop) (i : Nat) (ms' : Ents) (Ls' : Lss) (w' : World) : Prop := ∃ X' F', Sys w0 w' X' (updF Fs i F') ms' Ls' ∧ Keeps w X w' X' ∧ (∀ k, X' k → X k ∨ w.heap.size ≤ k) ∧ Chg (Fs i) w w'
theorem Sys.act {w' : World} {m' : Lm} (h : Sys w0 w X Fs ms Ls) (hi : ms i = some (t, p, m)) (ha : Acted t w X (Fs i) p m' w') : Next w0 w X Fs i (upd ms i (t, p, m')) Ls w' := by
  obtain ⟨F', he, hc, hf⟩ := ha
  have hfl : ∀ k, F' k → k < w'.heap.size := by obtain ⟨_, _, _, _, he⟩ := he; exact he.fl
  have ht := (h.st.en i t p m hi).1
  obtain ⟨h1, h2⟩ := h.st.step i (ms' := upd ms i (t, p, m')) (fun j hj => upd_other hj) (fun t2 p2 m2 e => by
    rw [upd_same] at e
    injection e with e
    injection e with h1 h2
    injection h2 with h2 h3
    subst h1 h2 h3
    exact ⟨ht, he⟩) hc hf hfl
  refine ⟨_, _, ⟨h1, fun j v l hj => ?_⟩, h2, fun k hk => hk.elim .inl fun hk => (hf k hk).imp (h.st.fx i k) id, hc⟩
  obtain ⟨g1, g2⟩ := h.ls j v l hj
  have hji : j ≠ i := fun e => by rw [e, hi] at g1; cases g1
  refine ⟨by rw [upd_other hji]; exact g1, ?_⟩
  rw [updF_other hji]
  exact g2.chg hc (fun k hk hk2 => h.st.dj j i k hji hk hk2) h2 fun k hk => hk
theorem Sys.take {a : Option Addr} {n c : Nat} {bs : List UInt8} (h : Sys w0 w X Fs ms Ls) (hi : ms i = some (t, p, m)) (hm : m.ok 1000000000) (hn : bs.length = n) (hc : n ≤ c) (hr : Reads w a (vals bs)) (hl : n ≤ 1099511627776) :
    Calls Try.prog 19 #[.pointer (some ⟨p, 0, none⟩), .slice a n c] w (endW (fun v w' => v = .int .i64 (m.take bs).1 ∧ Next w0 w X Fs i (upd ms i (t, p, (m.take bs).2)) Ls w') (fun _ _ => False)) := by
  obtain ⟨ht, he⟩ := h.st.en i t p m hi
  refine Calls.then (Take_ok he ht hm (fun k hk => (h.st.xb k hk).2) hn hc hr hl) ?_
  rintro v w' ⟨rfl, ha⟩
  exact ⟨rfl, h.act hi ha⟩
theorem Sys.tick (h : Sys w0 w X Fs ms Ls) (hi : ms i = some (t, p, m)) (hl : m.sent.length ≤ 4096) (hrl : ∀ l ∈ m.sent, l.length ≤ 8192) :
    Calls Try.prog 20 #[.pointer (some ⟨p, 0, none⟩)] w (endW (Told w X (S.sealed m.payload)) (fun _ _ => False)) := Ent.tick ⟨Fs, h.st⟩ hi hl hrl
theorem Sys.left (h : Sys w0 w X Fs ms Ls) (hi : ms i = some (t, p, m)) : Calls Try.prog 21 #[.pointer (some ⟨p, 0, none⟩)] w (endW (fun v w' => v = .int .i64 (m.sent.length : Int) ∧ w' = w) (fun _ _ => False)) := Ent.left ⟨Fs, h.st⟩ hi
/-- what has come, and the state then -/
def CameNext (w0 w : World) (X : Nat → Prop) (Fs : Nat → Nat → Prop) (i : Nat) (ms' : Ents) (Ls' : Lss) (ls : List (List UInt8)) (v : Value) (w' : World) : Prop := ∃ X' F', Sys w0 w' X' (updF Fs i F') ms' Ls' ∧ Keeps w X w' X' ∧ (∀ k, X' k → X k ∨ w.heap.size ≤ k) ∧ Chg (Fs i) w w' ∧
  ∃ a c us, v = .slice a ls.length c ∧ (a = none → ls.length = 0) ∧ Reads w' a us ∧ BRows w' X' us ls
theorem Sys.came (h : Sys w0 w X Fs ms Ls) (hi : ms i = some (t, p, m)) : Calls Try.prog 15 #[.pointer (some ⟨p, 0, none⟩)] w (endW (CameNext w0 w X Fs i (upd ms i (t, p, { m with fresh := [] })) Ls m.fresh) (fun _ _ => False)) := by
  obtain ⟨ht, he⟩ := h.st.en i t p m hi
  refine Calls.then (Came_ok he ht) ?_
  intro v w' hcame
  have hact := h.act hi (hcame.acted he)
  obtain ⟨X', F', h1, h2, h3, h4⟩ := hact
  obtain ⟨a, c, us, rfl, ho, hb, hbk, hcw, hz, _⟩ := hcame
  refine ⟨X', F', h1, h2, h3, h4, a, c, us, rfl, fun e => ?_, ho.reads, hb.wide fun k hk hx => (h3 k hx).elim id fun hx => by omega⟩
  obtain ⟨a', c', e1, hl, hn, hh⟩ := ho
  injection e1 with e1 _ e2
  subst e1 e2
  rcases Nat.eq_zero_or_pos m.fresh.length with hz | hz
  · exact hz
  · obtain ⟨g, k, cur, e2, _⟩ := hh (by omega)
    rw [e] at e2
    cases e2
/-- rows are appended to one of the lists -/
theorem Sys.push {v : Value} {ls ns : List (List UInt8)} {us : List Value} {a : Option Addr} {c n : Nat} {K : Value → World → Prop} {E : PanW} (h : Sys w0 w X Fs ms Ls) (hi : Ls i = some (v, ls)) (hr : Reads w a us) (hb : BRows w X us ns) (hn : n = ns.length) (h0 : a = none → n = 0)
    (hl : ls.length + ns.length ≤ 1000000) (hK : ∀ a' c' w', Next w0 w X Fs i ms (updL Ls i (.slice a' (ls.length + ns.length) c', ls ++ ns)) w' → K (.slice a' (ls.length + ns.length) c') w') :
    runV Try.prog (Builtin.append_ #[30, 30] 30 #[v, .slice a n c]) w K E := by
  subst hn
  obtain ⟨hmi, ⟨vs, ho, hbv⟩, hf⟩ := h.ls i v ls hi
  have hul := hb.length
  refine row_append (z := .slice none 0 0) (bytes := 24) und30 und30 info31 rfl ho (by omega) hr h0 hb.ones (by omega) (by omega) (by have := h.st.ch.size; omega) ?_
  intro a' c' w' ho' hc' hb'
  have hlt : ∀ k, (Value.slice a' (ls.length + ns.length) c').ownBlock = some k → k < w'.heap.size := fun k hk => (own_lt' ho' hk).1
  have hcF : Chg (Fs i) w w' := hc'.mono fun k _ hk => hf k hk
  obtain ⟨h1, h2⟩ := h.st.step (F' := fun k => (Value.slice a' (ls.length + ns.length) c').ownBlock = some k) i (ms' := ms) (fun j hj => rfl) (fun t2 p2 m2 e => by rw [hmi] at e; cases e) hcF
    (fun k hk => (hb' k hk).imp (hf k) id) hlt
  refine hK a' c' w' ⟨_, _, ⟨h1, fun j u l hj => ?_⟩, h2, fun k hk => hk.elim .inl fun hk => (hb' k hk).imp (fun e => h.st.fx i k (hf k e)) id, hcF⟩
  by_cases hji : j = i
  · subst hji
    rw [updL_same] at hj
    injection hj with hj
    injection hj with e1 e2
    subst e1 e2
    refine ⟨hmi, ⟨vs ++ us, by rw [List.length_append]; exact ho', ?_⟩, fun k hk => by rw [updF_same]; exact hk⟩
    exact (h2.rows hbv).append (h2.rows hb)
  · rw [updL_other hji] at hj
    obtain ⟨g1, g2⟩ := h.ls j u l hj
    refine ⟨g1, ?_⟩
    rw [updF_other hji]
    exact g2.chg hcF (fun k hk hk2 => h.st.dj j i k hji hk hk2) h2 fun k hk => hk
/-- a row of one of the lists -/
theorem Sys.get {v : Value} {ls : List (List UInt8)} {j : Nat} (h : Sys w0 w X Fs ms Ls) (hi : Ls i = some (v, ls)) (hj : j < ls.length) : ∃ A c rv, v = .slice (some A) ls.length c ∧ w.cell? (addK A j) = some rv ∧ RowIn w X rv ls[j] := by
  obtain ⟨hmi, ⟨vs, ho, hb⟩, hf⟩ := h.ls i v ls hi
  obtain ⟨rv, h1, h2⟩ := hb.get (List.getElem?_eq_getElem hj)
  obtain ⟨a, c, rfl, _, _⟩ := own_form ho
  obtain ⟨A, rfl, hc⟩ := own_cell ho h1
  exact ⟨A, c, rv, rfl, hc, h2⟩
theorem Sys.form {v : Value} {ls : List (List UInt8)} (h : Sys w0 w X Fs ms Ls) (hi : Ls i = some (v, ls)) : ∃ a c us, v = .slice a ls.length c ∧ Reads w a us ∧ BRows w X us ls ∧ (a = none → ls.length = 0) ∧ ls.length ≤ c := by
  obtain ⟨hmi, ⟨vs, ho, hb⟩, hf⟩ := h.ls i v ls hi
  obtain ⟨a, c, rfl, hn, _⟩ := own_form ho
  refine ⟨a, c, vs, rfl, own_reads' ho, hb, fun e => ?_, hn⟩
  subst e
  rcases ho.2 with ⟨_, h⟩ | ⟨g, cap, cur, he, _⟩
  · exact h
  · injection he with he; cases he
end Go.Proofs.Ytooebmpjmcmkoaa.B
