/-
  LinePlays: what an act needs of the ends' bounds; the acts on the program's end and on the document's, with blocks beside them that are written.
-/
import Derived.Test.YtooebmpjmcmkoaaLinX
import Derived.Test.YtooebmpjmcmkoaaBF
set_option maxRecDepth 100000
set_option linter.unusedVariables false
set_option linter.unusedSimpArgs false
namespace Go.Proofs.Ytooebmpjmcmkoaa.B
open Go Go.Proofs Go.Proofs.YtooebmpjmcmkoaaEng

theorem msgs_rows : ∀ {n : Nat} {bs : List UInt8} {ls : List (List UInt8)}, msgs n bs = some ls → ∀ l ∈ ls, l.length ≤ 8192
  | 0, bs, ls, h => by
    unfold msgs at h
    split at h
    · injection h with h; subst h; intro l hl; cases hl
    · cases h
  | n + 1, bs, ls, h => by
    unfold msgs at h
    split at h
    · cases h
    split at h
    · cases h
    split at h
    · cases h
    · obtain ⟨l, hl, rfl⟩ := Option.map_eq_some_iff.1 h
      intro x hx
      rcases List.mem_cons.1 hx with rfl | hx
      · rw [List.length_take]; omega
      · exact msgs_rows hl x hx
theorem parse_rows {bs : List UInt8} {d : Dgm} (h : parse bs = some d) : ∀ l ∈ d.ls, l.length ≤ 8192 := by
  unfold parse at h
  split at h
  · cases h
  · obtain ⟨l, hl, rfl⟩ := Option.map_eq_some_iff.1 h
    exact msgs_rows hl
structure Lm.good (m : Lm) (k : Nat) : Prop where
  ok : m.ok k
  rows : ∀ l ∈ m.sent, l.length ≤ 8192
  fr : ∀ l ∈ m.fresh, l.length ≤ 8192
theorem Lm.good.new {ep : Nat} (h : ep < 4294967296) (k : Nat) : (Lm.new ep).good k := ⟨⟨h, by show 0 < _; omega, by show 0 < _; omega, Nat.zero_le _, Nat.zero_le _⟩, (fun l hl => by cases hl), fun l hl => by cases hl⟩
theorem Lm.good.more {m : Lm} {k k' : Nat} (h : m.good k) (hk : k ≤ k') : m.good k' := ⟨⟨h.ok.ep, h.ok.got, h.ok.come, h.ok.sent, Nat.le_trans h.ok.fresh hk⟩, h.rows, h.fr⟩
theorem Lm.good.send {m : Lm} {k : Nat} (h : m.good k) (bs : List UInt8) : (m.send bs).2.good k := by
  unfold Lm.send
  split
  · exact h
  · split
    · exact h
    · refine ⟨⟨h.ok.ep, h.ok.got, h.ok.come, ?_, h.ok.fresh⟩, fun l hl => ?_, h.fr⟩
      · show (m.sent ++ [bs]).length ≤ _
        rw [List.length_append]
        simp
        omega
      · rcases List.mem_append.1 hl with hl | hl
        · exact h.rows l hl
        · simp at hl
          subst hl
          omega
theorem feed_good : ∀ (ls : List (List UInt8)) (first i : Nat) (m : Lm) (k : Nat), m.good k → (∀ l ∈ ls, l.length ≤ 8192) → (feed first i ls m).good (k + ls.length)
  | [], first, i, m, k, h, hr => h
  | l :: ls, first, i, m, k, h, hr => by
    unfold feed
    have : (if first + i = m.come then m.add l else m).good (k + 1) := by
      split
      · refine ⟨h.ok.add l, h.rows, fun x hx => ?_⟩
        rcases List.mem_append.1 hx with hx | hx
        · exact h.fr x hx
        · simp at hx
          subst hx
          exact hr _ List.mem_cons_self
      · exact h.more (by omega)
    have := feed_good ls first (i + 1) _ (k + 1) this fun x hx => hr x (List.mem_cons_of_mem _ hx)
    rw [List.length_cons]
    exact this.more (by omega)
theorem Lm.good.take {m : Lm} {k : Nat} (h : m.good k) (bs : List UInt8) : (m.take bs).2.good (k + 32) := by
  rw [take_cases]
  split
  · exact h.more (by omega)
  · split
    · exact h.more (by omega)
    · cases hp : parse (opened bs).2 with
      | none => exact h.more (by omega)
      | some d =>
        have hd := parse_wf hp
        show (m.hear d).good _
        unfold Lm.hear
        split
        · exact h.more (by omega)
        · have h1 : (m.heard d).good k := ⟨h.ok.heard hd, fun l hl => by
            unfold Lm.heard at hl
            split at hl
            · cases hl
            · exact h.rows l hl, fun l hl => by
            unfold Lm.heard at hl
            split at hl
            · cases hl
            · exact h.fr l hl⟩
          have h2 : ((m.heard d).acks d.come).good k := ⟨h1.ok.acks hd.come, fun l hl => by
            unfold Lm.acks at hl
            split at hl
            · exact h1.rows l (List.mem_of_mem_drop hl)
            · exact h1.rows l hl, fun l hl => by
            unfold Lm.acks at hl
            split at hl
            · exact h1.fr l hl
            · exact h1.fr l hl⟩
          exact (feed_good d.ls d.first 0 _ k h2 (parse_rows hp)).more (by have := hd.len; omega)
theorem Lm.good.came {m : Lm} {k : Nat} (h : m.good k) : ({ m with fresh := [] } : Lm).good k := ⟨⟨h.ok.ep, h.ok.got, h.ok.come, h.ok.sent, Nat.zero_le _⟩, h.rows, fun l hl => by cases hl⟩

variable {w0 w : World} {X : Nat → Prop} {Fs : Nat → Nat → Prop} {ms : Ents} {Ls : Lss} {i p n : Nat} {t : TypeId} {m : Lm}
/-- what lies beside the ends is written -/
theorem Sys.write {w' : World} (h : Sys w0 w X Fs ms Ls) (hn : ms n = none ∧ Ls n = none) (hc : Chg (Fs n) w w') : Sys w0 w' X Fs ms Ls ∧ Keeps w X w' X := by
  have hk : Keeps w X w' X := fun v bs hr => hr.chg hc fun k _ hk => h.st.fx n k hk
  refine ⟨⟨⟨h.st.ch.trans2 hc fun k hk hF => ?_, fun k hk => ?_, fun j t2 p2 m2 hj => ?_, h.st.fx, h.st.dj⟩, fun j v l hj => ?_⟩, hk⟩
  · have := (h.st.xb k (h.st.fx n k hF)).1; omega
  · have := h.st.xb k hk; have := hc.size; omega
  · have hji : j ≠ n := fun e => by rw [e, hn.1] at hj; cases hj
    obtain ⟨ht, he⟩ := h.st.en j t2 p2 m2 hj
    exact ⟨ht, he.chg hc fun k _ hk => ⟨h.st.fx n k hk, fun hF => h.st.dj j n k hji hF hk⟩⟩
  · have hji : j ≠ n := fun e => by rw [e, hn.2] at hj; cases hj
    obtain ⟨g1, g2⟩ := h.ls j v l hj
    exact ⟨g1, g2.chg hc (fun k hk hk2 => h.st.dj j n k hji hk hk2) hk fun k hk => hk⟩
/-- new blocks are laid beside the ends -/
theorem Sys.own {w' : World} (h : Sys w0 w X Fs ms Ls) (hn : ms n = none ∧ Ls n = none) (hc : Chg NoS w w') (F : Nat → Prop) (hF : ∀ k, F k → w.heap.size ≤ k ∧ k < w'.heap.size) : Sys w0 w' (orX X F) (updF Fs n F) ms Ls ∧ Keeps w X w' (orX X F) := by
  have hc' : Chg (Fs n) w w' := hc.mono fun k _ h => h.elim
  obtain ⟨h1, h2⟩ := h.st.step (F' := F) n (ms' := ms) (fun j hj => rfl) (fun t2 p2 m2 e => by rw [hn.1] at e; cases e) hc' (fun k hk => .inr (hF k hk).1) (fun k hk => (hF k hk).2)
  refine ⟨⟨h1, fun j v l hj => ?_⟩, h2⟩
  have hji : j ≠ n := fun e => by rw [e, hn.2] at hj; cases hj
  obtain ⟨g1, g2⟩ := h.ls j v l hj
  refine ⟨g1, ?_⟩
  rw [updF_other hji]
  exact g2.chg hc (fun k _ h => h) h2 fun k hk => hk
theorem Sys.send {a : Option Addr} {n c : Nat} {bs : List UInt8} (h : Sys w0 w X Fs ms Ls) (hi : ms i = some (t, p, m)) (hl : m.sent.length ≤ 4096) (hn : bs.length = n) (hr : Reads w a (vals bs)) (h0 : a = none → n = 0) :
    Calls Try.prog 18 #[.pointer (some ⟨p, 0, none⟩), .slice a n c] w (endW (fun v w' => v = .int .i64 (m.send bs).1 ∧ Next w0 w X Fs i (upd ms i (t, p, (m.send bs).2)) Ls w') (fun _ _ => False)) := by
  obtain ⟨ht, he⟩ := h.st.en i t p m hi
  refine Calls.then (Send_ok he ht (by omega) (fun k hk => (h.st.xb k hk).2) hn hr h0) ?_
  rintro v w' ⟨rfl, ha⟩
  exact ⟨rfl, h.act hi ha⟩
theorem Sys.rsend {a : Option Addr} {n c : Nat} {bs : List UInt8} (h : Sys w0 w X Fs ms Ls) (hi : ms i = some (t, p, m)) (hl : m.sent.length ≤ 4096) (hn : bs.length = n) (hr : Reads w a (vals bs)) (h0 : a = none → n = 0) :
    Calls Try.prog 27 #[.pointer (some ⟨p, 0, none⟩), .slice a n c] w (endW (fun v w' => v = .int .i64 (m.send bs).1 ∧ Next w0 w X Fs i (upd ms i (t, p, (m.send bs).2)) Ls w') (fun _ _ => False)) := by
  obtain ⟨ht, he⟩ := h.st.en i t p m hi
  refine Calls.then (rSend_ok he ht (by omega) (fun k hk => (h.st.xb k hk).2) hn hr h0) ?_
  rintro v w' ⟨rfl, ha⟩
  exact ⟨rfl, h.act hi ha⟩
theorem Sys.rtake {a : Option Addr} {n c : Nat} {bs : List UInt8} (h : Sys w0 w X Fs ms Ls) (hi : ms i = some (t, p, m)) (hm : m.ok 1000000000) (hn : bs.length = n) (hc : n ≤ c) (hr : Reads w a (vals bs)) (hl : n ≤ 1099511627776) :
    Calls Try.prog 29 #[.pointer (some ⟨p, 0, none⟩), .slice a n c] w (endW (fun v w' => v = .int .i64 (m.take bs).1 ∧ Next w0 w X Fs i (upd ms i (t, p, (m.take bs).2)) Ls w') (fun _ _ => False)) := by
  obtain ⟨ht, he⟩ := h.st.en i t p m hi
  refine Calls.then (rTake_ok he ht hm (fun k hk => (h.st.xb k hk).2) hn hc hr hl) ?_
  rintro v w' ⟨rfl, ha⟩
  exact ⟨rfl, h.act hi ha⟩
theorem Sys.rtick (h : Sys w0 w X Fs ms Ls) (hi : ms i = some (t, p, m)) (hl : m.sent.length ≤ 4096) (hrl : ∀ l ∈ m.sent, l.length ≤ 8192) :
    Calls Try.prog 28 #[.pointer (some ⟨p, 0, none⟩)] w (endW (Told w X (S.sealed m.payload)) (fun _ _ => False)) := Ent.rtick ⟨Fs, h.st⟩ hi hl hrl
theorem Sys.rleft (h : Sys w0 w X Fs ms Ls) (hi : ms i = some (t, p, m)) : Calls Try.prog 31 #[.pointer (some ⟨p, 0, none⟩)] w (endW (fun v w' => v = .int .i64 (m.sent.length : Int) ∧ w' = w) (fun _ _ => False)) := Ent.rleft ⟨Fs, h.st⟩ hi
theorem Sys.reset {ep : Nat} (h : Sys w0 w X Fs ms Ls) (hi : ms i = some (t, p, m)) : Calls Try.prog 17 #[.pointer (some ⟨p, 0, none⟩), .int .u32 ep] w (endW (fun v w' => v = .tuple #[] ∧ Next w0 w X Fs i (upd ms i (t, p, Lm.new ep)) Ls w') (fun _ _ => False)) := by
  obtain ⟨ht, he⟩ := h.st.en i t p m hi
  refine Calls.then (Reset_ok (ep := ep) he) ?_
  rintro v w' ⟨rfl, he', hc, hz⟩
  obtain ⟨_, _, _, _, hv⟩ := he
  exact ⟨rfl, h.act hi ⟨_, he'.wide (fun k _ hk => hk.elim id fun hk => hv.fx k hk) (fun k hk => .inr hk), hc.mono fun k _ e => hv.fp k (.inl e), fun k hk => .inl hk⟩⟩
theorem Sys.rreset {ep : Nat} (h : Sys w0 w X Fs ms Ls) (hi : ms i = some (t, p, m)) : Calls Try.prog 30 #[.pointer (some ⟨p, 0, none⟩), .int .u32 ep] w (endW (fun v w' => v = .tuple #[] ∧ Next w0 w X Fs i (upd ms i (t, p, Lm.new ep)) Ls w') (fun _ _ => False)) := by
  obtain ⟨ht, he⟩ := h.st.en i t p m hi
  refine Calls.then (rReset_ok (ep := ep) he) ?_
  rintro v w' ⟨rfl, he', hc, hz⟩
  obtain ⟨_, _, _, _, hv⟩ := he
  exact ⟨rfl, h.act hi ⟨_, he'.wide (fun k _ hk => hk.elim id fun hk => hv.fx k hk) (fun k hk => .inr hk), hc.mono fun k _ e => hv.fp k (.inl e), fun k hk => .inl hk⟩⟩
/-- what has come: a row of rows that belongs to no end any more -/
def CameOwn (w0 w : World) (X : Nat → Prop) (Fs : Nat → Nat → Prop) (i : Nat) (ms' : Ents) (Ls' : Lss) (ls : List (List UInt8)) (v : Value) (w' : World) : Prop := ∃ X' F', Sys w0 w' X' (updF Fs i F') ms' Ls' ∧ Keeps w X w' X' ∧ (∀ k, X' k → X k ∨ w.heap.size ≤ k) ∧ Chg (Fs i) w w' ∧
  ∃ a c us, v = .slice a ls.length c ∧ OwnT w' 31 v ls.length us ∧ BRows w' X' us ls ∧ ∀ k, tBlk v k → ∀ j, ¬ updF Fs i F' j k
theorem Sys.cameOwn {w' : World} {v : Value} (h : Sys w0 w X Fs ms Ls) (hi : ms i = some (t, p, m)) (hcame : CameEnd t w X (Fs i) p m v w') : CameOwn w0 w X Fs i (upd ms i (t, p, { m with fresh := [] })) Ls m.fresh v w' := by
  obtain ⟨ht, he0⟩ := h.st.en i t p m hi
  obtain ⟨a, c, us, rfl, ho, hb, hbk, hcw, hz, he⟩ := hcame
  obtain ⟨_, _, _, _, hv⟩ := he0
  have he' := he.wide (Y := orX X (fun k => Fs i k ∧ ¬ tBlk (.slice a m.fresh.length c) k)) (fun k _ hk => hk.elim id fun hk => hv.fx k hk.1) (fun k hk => .inr hk)
  have hfl : ∀ k, (Fs i k ∧ ¬ tBlk (.slice a m.fresh.length c) k) → k < w'.heap.size := fun k hk => by have := (h.st.xb k (h.st.fx i k hk.1)).2; omega
  have hcF : Chg (Fs i) w w' := hcw.mono fun k _ e => hv.fp k (.inl e)
  obtain ⟨h1, h2⟩ := h.st.step i (ms' := upd ms i (t, p, { m with fresh := [] })) (fun j hj => upd_other hj) (fun t2 p2 m2 e => by
    rw [upd_same] at e
    injection e with e
    injection e with h1 h2
    injection h2 with h2 h3
    subst h1 h2 h3
    exact ⟨ht, he'⟩) hcF (fun k hk => .inl hk.1) hfl
  refine ⟨_, _, ⟨h1, fun j v l hj => ?_⟩, h2, fun k hk => hk.elim .inl fun hk => .inl (h.st.fx i k hk.1), hcF, a, c, us, rfl, ho, hb.wide fun k hk hx => hx.elim id fun hx => h.st.fx i k hx.1, fun k hk j hj => ?_⟩
  · obtain ⟨g1, g2⟩ := h.ls j v l hj
    have hji : j ≠ i := fun e => by rw [e, hi] at g1; cases g1
    refine ⟨by rw [upd_other hji]; exact g1, ?_⟩
    rw [updF_other hji]
    exact g2.chg hcF (fun k hk hk2 => h.st.dj j i k hji hk hk2) h2 fun k hk => hk
  · by_cases hji : j = i
    · subst hji
      rw [updF_same] at hj
      exact hj.2 hk
    · rw [updF_other hji] at hj
      exact h.st.dj j i k hji hj (hbk k hk).1
theorem Sys.cameO (h : Sys w0 w X Fs ms Ls) (hi : ms i = some (t, p, m)) : Calls Try.prog 15 #[.pointer (some ⟨p, 0, none⟩)] w (endW (CameOwn w0 w X Fs i (upd ms i (t, p, { m with fresh := [] })) Ls m.fresh) (fun _ _ => False)) := by
  obtain ⟨ht, he⟩ := h.st.en i t p m hi
  exact Calls.then (Came_ok he ht) fun v w' hc => h.cameOwn hi hc
theorem Sys.rcameO (h : Sys w0 w X Fs ms Ls) (hi : ms i = some (t, p, m)) : Calls Try.prog 16 #[.pointer (some ⟨p, 0, none⟩)] w (endW (CameOwn w0 w X Fs i (upd ms i (t, p, { m with fresh := [] })) Ls m.fresh) (fun _ _ => False)) := by
  obtain ⟨ht, he⟩ := h.st.en i t p m hi
  exact Calls.then (rCame_ok he ht) fun v w' hc => h.cameOwn hi hc
end Go.Proofs.Ytooebmpjmcmkoaa.B
