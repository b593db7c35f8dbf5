/-
  line: the acts, with several ends about.
-/
import Derived.Test.YtooebmpjmcmkoaaLinL
set_option maxRecDepth 100000
set_option linter.unusedVariables false
set_option linter.unusedSimpArgs false
namespace Go.Proofs.Ytooebmpjmcmkoaa.B
open Go Go.Proofs Go.Proofs.YtooebmpjmcmkoaaEng

def Ent (w0 w : World) (X : Nat → Prop) (ms : Ents) : Prop := ∃ Fs, Sts w0 w X ms Fs
variable {w0 w : World} {X : Nat → Prop} {ms : Ents} {i p : Nat} {t : TypeId} {m : Lm}
theorem Ent.quiet {w' : World} (h : Ent w0 w X ms) (hc : Chg NoS w w') : Ent w0 w' X ms ∧ Keeps w X w' X := by
  obtain ⟨Fs, h⟩ := h
  exact ⟨⟨Fs, (h.quiet hc).1⟩, (h.quiet hc).2⟩
theorem Ent.lt (h : Ent w0 w X ms) : ∀ k, X k → w0.heap.size ≤ k ∧ k < w.heap.size := by obtain ⟨Fs, h⟩ := h; exact h.xb
theorem Ent.ch (h : Ent w0 w X ms) : Chg NoS w0 w := by obtain ⟨Fs, h⟩ := h; exact h.ch
/-- what an act leaves -/
def Did (w0 w : World) (X : Nat → Prop) (ms' : Ents) (w' : World) : Prop := ∃ X', Ent w0 w' X' ms' ∧ Keeps w X w' X' ∧ Chg X w w' ∧ ∀ k, X' k → X k ∨ w.heap.size ≤ k
theorem Did.of {w' : World} {Fs : Nat → Nat → Prop} {m' : Lm} (h : Sts w0 w X ms Fs) (hi : ms i = some (t, p, m)) (ha : Acted t w X (Fs i) p m' w') : Did w0 w X (upd ms i (t, p, m')) w' := by
  obtain ⟨X', Fs', h1, h2, h3, h4⟩ := h.act hi ha
  exact ⟨X', ⟨Fs', h1⟩, h2, h3.mono fun k _ hk => h.fx i k hk, h4⟩
theorem Ent.send {a : Option Addr} {n c : Nat} {bs : List UInt8} (h : Ent w0 w X ms) (hi : ms i = some (t, p, m)) (hl : m.sent.length ≤ 4096) (hn : bs.length = n) (hr : Reads w a (vals bs)) (h0 : a = none → n = 0) :
    Calls Try.prog 18 #[.pointer (some ⟨p, 0, none⟩), .slice a n c] w (endW (fun v w' => v = .int .i64 (m.send bs).1 ∧ Did w0 w X (upd ms i (t, p, (m.send bs).2)) w') (fun _ _ => False)) := by
  obtain ⟨Fs, h⟩ := h
  obtain ⟨ht, he⟩ := h.en i t p m hi
  refine Calls.then (Send_ok he ht (by omega) (fun k hk => (h.xb k hk).2) hn hr h0) ?_
  rintro v w' ⟨rfl, ha⟩
  exact ⟨rfl, Did.of h hi ha⟩
theorem Ent.rsend {a : Option Addr} {n c : Nat} {bs : List UInt8} (h : Ent w0 w X ms) (hi : ms i = some (t, p, m)) (hl : m.sent.length ≤ 4096) (hn : bs.length = n) (hr : Reads w a (vals bs)) (h0 : a = none → n = 0) :
    Calls Try.prog 27 #[.pointer (some ⟨p, 0, none⟩), .slice a n c] w (endW (fun v w' => v = .int .i64 (m.send bs).1 ∧ Did w0 w X (upd ms i (t, p, (m.send bs).2)) w') (fun _ _ => False)) := by
  obtain ⟨Fs, h⟩ := h
  obtain ⟨ht, he⟩ := h.en i t p m hi
  refine Calls.then (rSend_ok he ht (by omega) (fun k hk => (h.xb k hk).2) hn hr h0) ?_
  rintro v w' ⟨rfl, ha⟩
  exact ⟨rfl, Did.of h hi ha⟩
theorem Ent.take {a : Option Addr} {n c : Nat} {bs : List UInt8} (h : Ent w0 w X ms) (hi : ms i = some (t, p, m)) (hm : m.ok 1000000000) (hn : bs.length = n) (hc : n ≤ c) (hr : Reads w a (vals bs)) (hl : n ≤ 1099511627776) :
    Calls Try.prog 19 #[.pointer (some ⟨p, 0, none⟩), .slice a n c] w (endW (fun v w' => v = .int .i64 (m.take bs).1 ∧ Did w0 w X (upd ms i (t, p, (m.take bs).2)) w') (fun _ _ => False)) := by
  obtain ⟨Fs, h⟩ := h
  obtain ⟨ht, he⟩ := h.en i t p m hi
  refine Calls.then (Take_ok he ht hm (fun k hk => (h.xb k hk).2) hn hc hr hl) ?_
  rintro v w' ⟨rfl, ha⟩
  exact ⟨rfl, Did.of h hi ha⟩
theorem Ent.rtake {a : Option Addr} {n c : Nat} {bs : List UInt8} (h : Ent w0 w X ms) (hi : ms i = some (t, p, m)) (hm : m.ok 1000000000) (hn : bs.length = n) (hc : n ≤ c) (hr : Reads w a (vals bs)) (hl : n ≤ 1099511627776) :
    Calls Try.prog 29 #[.pointer (some ⟨p, 0, none⟩), .slice a n c] w (endW (fun v w' => v = .int .i64 (m.take bs).1 ∧ Did w0 w X (upd ms i (t, p, (m.take bs).2)) w') (fun _ _ => False)) := by
  obtain ⟨Fs, h⟩ := h
  obtain ⟨ht, he⟩ := h.en i t p m hi
  refine Calls.then (rTake_ok he ht hm (fun k hk => (h.xb k hk).2) hn hc hr hl) ?_
  rintro v w' ⟨rfl, ha⟩
  exact ⟨rfl, Did.of h hi ha⟩
/-- one datagram in a list, new -/
def Told (w : World) (X : Nat → Prop) (bs : List UInt8) (v : Value) (w' : World) : Prop := Chg NoS w w' ∧ ∃ b rv, v = .slice (some ⟨b, 0, none⟩) 1 1 ∧ w.heap.size ≤ b ∧ w'.heap[b]? = some (.cells #[rv] 31 (0, 0)) ∧ RowIn w' X rv bs
theorem Ent.tick (h : Ent w0 w X ms) (hi : ms i = some (t, p, m)) (hl : m.sent.length ≤ 4096) (hrl : ∀ l ∈ m.sent, l.length ≤ 8192) :
    Calls Try.prog 20 #[.pointer (some ⟨p, 0, none⟩)] w (endW (Told w X (S.sealed m.payload)) (fun _ _ => False)) := by
  obtain ⟨Fs, h⟩ := h
  obtain ⟨ht, he⟩ := h.en i t p m hi
  refine Calls.then (Tick_ok he (by omega) hrl) ?_
  rintro v w' ⟨b, rv, rfl, hb, hbl, hc, hr⟩
  exact ⟨hc, b, rv, rfl, hb, hbl, hr X fun k hk hx => by have := (h.xb k hx).2; omega⟩
theorem Ent.rtick (h : Ent w0 w X ms) (hi : ms i = some (t, p, m)) (hl : m.sent.length ≤ 4096) (hrl : ∀ l ∈ m.sent, l.length ≤ 8192) :
    Calls Try.prog 28 #[.pointer (some ⟨p, 0, none⟩)] w (endW (Told w X (S.sealed m.payload)) (fun _ _ => False)) := by
  obtain ⟨Fs, h⟩ := h
  obtain ⟨ht, he⟩ := h.en i t p m hi
  refine Calls.then (rTick_ok he (by omega) hrl) ?_
  rintro v w' ⟨b, rv, rfl, hb, hbl, hc, hr⟩
  exact ⟨hc, b, rv, rfl, hb, hbl, hr X fun k hk hx => by have := (h.xb k hx).2; omega⟩
theorem Ent.left (h : Ent w0 w X ms) (hi : ms i = some (t, p, m)) : Calls Try.prog 21 #[.pointer (some ⟨p, 0, none⟩)] w (endW (fun v w' => v = .int .i64 (m.sent.length : Int) ∧ w' = w) (fun _ _ => False)) := by
  obtain ⟨Fs, h⟩ := h
  exact Left_ok (h.en i t p m hi).2
theorem Ent.rleft (h : Ent w0 w X ms) (hi : ms i = some (t, p, m)) : Calls Try.prog 31 #[.pointer (some ⟨p, 0, none⟩)] w (endW (fun v w' => v = .int .i64 (m.sent.length : Int) ∧ w' = w) (fun _ _ => False)) := by
  obtain ⟨Fs, h⟩ := h
  exact rLeft_ok (h.en i t p m hi).2
/-- the rows that have come: what holds them is written no more -/
def CameRows (w0 : World) (ms' : Ents) (ls : List (List UInt8)) (w : World) (X : Nat → Prop) (v : Value) (w' : World) : Prop := ∃ X', Ent w0 w' X' ms' ∧ Keeps w X w' X' ∧ Chg X w w' ∧ (∀ k, X' k → X k ∨ w.heap.size ≤ k) ∧
  ∃ a c us, v = .slice a ls.length c ∧ OwnT w' 31 v ls.length us ∧ BRows w' X' us ls ∧ ∀ k, tBlk v k → ¬ X' k
theorem came_rows {w' : World} {v : Value} {Fs : Nat → Nat → Prop} (h : Sts w0 w X ms Fs) (hi : ms i = some (t, p, m)) (hc : CameEnd t w X (Fs i) p m v w') : CameRows w0 (upd ms i (t, p, { m with fresh := [] })) m.fresh w X v w' := by
  obtain ⟨a, c, us, e, ho, hr, hb, hch, hz, he⟩ := hc
  obtain ⟨_, he0⟩ := h.en i t p m hi
  obtain ⟨_, _, _, _, hv⟩ := he0
  obtain ⟨X', Fs', h1, h2, h3, h4, h5⟩ := h.act' hi (he.wide (Y := orX X (fun k => Fs i k ∧ ¬ tBlk v k)) (fun k _ hk => hk.elim id fun hk => hv.fx k hk.1) (fun k hk => .inr hk)) (hch.mono fun k _ e => hv.fp k (.inl e)) fun k hk => .inl hk.1
  have h6 := h1.less (T := tBlk v) fun j k hk => by
    rcases h5 j k hk with ⟨_, hk⟩ | ⟨hne, hk⟩
    · exact hk.2
    · exact fun ht => h.dj j i k hne hk (hb k ht).1
  refine ⟨_, ⟨Fs', h6⟩, fun v bs hrow => (h2 v bs hrow).wide fun k _ hk => hk.1, h3.mono fun k _ hk => h.fx i k hk, fun k hk => h4 k hk.1, a, c, us, e, ho, hr.wide fun k hk hx => (h4 k hx.1).elim id fun h => by omega, fun k hk hx => hx.2 hk⟩
theorem Ent.came (h : Ent w0 w X ms) (hi : ms i = some (t, p, m)) : Calls Try.prog 15 #[.pointer (some ⟨p, 0, none⟩)] w (endW (CameRows w0 (upd ms i (t, p, { m with fresh := [] })) m.fresh w X) (fun _ _ => False)) := by
  obtain ⟨Fs, h⟩ := h
  obtain ⟨ht, he⟩ := h.en i t p m hi
  exact Calls.then (Came_ok he ht) fun v w' hc => came_rows h hi hc
theorem Ent.rcame (h : Ent w0 w X ms) (hi : ms i = some (t, p, m)) : Calls Try.prog 16 #[.pointer (some ⟨p, 0, none⟩)] w (endW (CameRows w0 (upd ms i (t, p, { m with fresh := [] })) m.fresh w X) (fun _ _ => False)) := by
  obtain ⟨Fs, h⟩ := h
  obtain ⟨ht, he⟩ := h.en i t p m hi
  exact Calls.then (rCame_ok he ht) fun v w' hc => came_rows h hi hc
theorem Ent.reset {ep : Nat} (h : Ent w0 w X ms) (hi : ms i = some (t, p, m)) : Calls Try.prog 17 #[.pointer (some ⟨p, 0, none⟩), .int .u32 ep] w (endW (fun v w' => v = .tuple #[] ∧ Did w0 w X (upd ms i (t, p, Lm.new ep)) w') (fun _ _ => False)) := by
  obtain ⟨Fs, h⟩ := h
  obtain ⟨ht, he⟩ := h.en i t p m hi
  refine Calls.then (Reset_ok (ep := ep) he) ?_
  rintro v w' ⟨rfl, he', hc, hz⟩
  obtain ⟨_, _, _, _, hv⟩ := he
  exact ⟨rfl, Did.of h hi ⟨_, he'.wide (fun k _ hk => hk.elim id fun hk => hv.fx k hk) (fun k hk => .inr hk), hc.mono fun k _ e => hv.fp k (.inl e), fun k hk => .inl hk⟩⟩
theorem Ent.rreset {ep : Nat} (h : Ent w0 w X ms) (hi : ms i = some (t, p, m)) : Calls Try.prog 30 #[.pointer (some ⟨p, 0, none⟩), .int .u32 ep] w (endW (fun v w' => v = .tuple #[] ∧ Did w0 w X (upd ms i (t, p, Lm.new ep)) w') (fun _ _ => False)) := by
  obtain ⟨Fs, h⟩ := h
  obtain ⟨ht, he⟩ := h.en i t p m hi
  refine Calls.then (rReset_ok (ep := ep) he) ?_
  rintro v w' ⟨rfl, he', hc, hz⟩
  obtain ⟨_, _, _, _, hv⟩ := he
  exact ⟨rfl, Did.of h hi ⟨_, he'.wide (fun k _ hk => hk.elim id fun hk => hv.fx k hk) (fun k hk => .inr hk), hc.mono fun k _ e => hv.fp k (.inl e), fun k hk => .inl hk⟩⟩
/-- two ends of the program, new -/
theorem two_new {w : World} {e1 e2 : Nat} : ∃ X, Ent w ((w.alloc (.cells (ecells (Lm.new e1) (.slice none 0 0) (.slice none 0 0)) 54)).alloc (.cells (ecells (Lm.new e2) (.slice none 0 0) (.slice none 0 0)) 54)) X
    (upd (upd (fun _ => none) 0 (54, w.heap.size, Lm.new e1)) 1 (54, (w.alloc (.cells (ecells (Lm.new e1) (.slice none 0 0) (.slice none 0 0)) 54)).heap.size, Lm.new e2)) := by
  obtain ⟨F1, h1, _, hf1⟩ := (Sts.start w).born (t := 54) (ep := e1) (i := 0) (by decide) (fun k h => h)
  obtain ⟨F2, h2, _, hf2⟩ := h1.born (t := 54) (ep := e2) (i := 1) (by decide) (fun k h => by rw [hf1 1 (by decide)] at h; exact h)
  exact ⟨_, F2, h2⟩
/-- one more -/
theorem Ent.born {ep : Nat} (h : Ent w0 w X ms) (hi : ms i = none) (ht : t ≠ 31) : ∃ X', Ent w0 (w.alloc (.cells (ecells (Lm.new ep) (.slice none 0 0) (.slice none 0 0)) t)) X' (upd ms i (t, w.heap.size, Lm.new ep)) ∧ Keeps w X (w.alloc (.cells (ecells (Lm.new ep) (.slice none 0 0) (.slice none 0 0)) t)) X' := by
  obtain ⟨Fs, h⟩ := h
  have h' : Sts w0 w X ms (fun j k => j ≠ i ∧ Fs j k) := ⟨h.ch, h.xb, fun j t2 p2 m2 hj => by
    have hji : j ≠ i := fun e => by rw [e, hi] at hj; cases hj
    have e : (fun k => j ≠ i ∧ Fs j k) = Fs j := by funext k; simp [hji]
    show t2 ≠ 31 ∧ EndAt t2 w X (fun k => j ≠ i ∧ Fs j k) p2 m2
    rw [e]
    exact h.en j t2 p2 m2 hj, fun j k hk => h.fx j k hk.2, fun j1 j2 k hne h1 h2 => h.dj j1 j2 k hne h1.2 h2.2⟩
  obtain ⟨F1, h1, hk, _⟩ := h'.born (t := t) (ep := ep) (i := i) ht (fun k h => h.1 rfl)
  exact ⟨_, ⟨F1, h1⟩, hk⟩
end Go.Proofs.Ytooebmpjmcmkoaa.B
