/-
  Counts: books in memory; made ready.
-/
import Derived.Test.YtaomfaehgbgdgaaCntA
set_option maxRecDepth 100000
set_option linter.unusedVariables false
set_option linter.unusedSimpArgs false
namespace Go.Proofs.Ytaomfaehgbgdgaa.B
open Go Go.Proofs Go.Proofs.YtaomfaehgbgdgaaEng

/-- a place: a switch, whether it is the base, a cookie -/
abbrev Pl := Int × Bool × Int
def plV (p : Pl) : Value := .agg #[.int .u16 p.1, .bool p.2.1, .int .u64 p.2.2]
def PlOk (p : Pl) : Prop := 0 ≤ p.1 ∧ p.1 ≤ 65535 ∧ 0 ≤ p.2.2 ∧ p.2.2 ≤ 18446744073709551615
theorem law71 : WideMaps.KeyLaw Try.prog 71 := deep_law (m := 3) (by omega) (by kernel_rfl) (by kernel_rfl) (by kernel_rfl)
theorem key71 {p : Pl} (h : PlOk p) : ∃ l, keyOf Try.prog 71 (plV p) = some l := by
  obtain ⟨sw, base, ck⟩ := p
  obtain ⟨h1, h2, h3, h4⟩ := h
  dsimp only at h1 h2 h3 h4
  have k1 : Try.prog.keyType 71 = true := by kernel_rfl
  have f1 : (plV (sw, base, ck)).formed Try.prog 71 = true := by
    unfold plV Value.formed
    rw [Try.underlying71]
    have : Try.prog.cellsOf 71 = 3 := by kernel_rfl
    simp [this]
  have w1 : (Lit.int .u16 sw).wf = true := by simp [Lit.wf, IntKind.min, IntKind.max, IntKind.signed, IntKind.bits]; omega
  have w2 : (Lit.int .u64 ck).wf = true := by simp [Lit.wf, IntKind.min, IntKind.max, IntKind.signed, IntKind.bits]; omega
  have hs : ∃ n, Try.prog.types.size + 1 = n + 2 := ⟨Try.prog.types.size - 1, by have : 1 ≤ Try.prog.types.size := of_decide_eq_true (by kernel_rfl); omega⟩
  obtain ⟨n, hn⟩ := hs
  unfold keyOf
  rw [Try.underlying71]
  simp only [k1, f1, Bool.and_self, if_true, hn]
  have hl : ∃ L, Try.prog.keyLits (n + 2) 71 (plV (sw, base, ck)).cells.toList = some L := by
    unfold Program.keyLits
    rw [Try.underlying71]
    have c71 : Try.prog.cellsOf 71 = 3 := by kernel_rfl
    have c23 : Try.prog.cellsOf 23 = 1 := by kernel_rfl
    have c4 : Try.prog.cellsOf 4 = 1 := by kernel_rfl
    have c33 : Try.prog.cellsOf 33 = 1 := by kernel_rfl
    simp [plV, Value.cells, c71, c23, c4, c33, Program.keyLits, Try.underlying23, Try.underlying4, Try.underlying33, w1, w2]
  obtain ⟨L, hL⟩ := hl
  rw [hL]
  exact ⟨_, rfl⟩
theorem plV_inj {p q : Pl} (h : plV p = plV q) : p = q := by
  obtain ⟨a, b, c⟩ := p
  obtain ⟨a', b', c'⟩ := q
  unfold plV at h
  simp only [Value.agg.injEq, Array.mk.injEq, List.cons.injEq, Value.int.injEq, Value.bool.injEq, true_and, and_true] at h
  obtain ⟨rfl, rfl, rfl⟩ := h
  rfl
/-- an entry of the sums -/
structure En where
  pl : Pl
  blk : Nat
  n : Nat
  born : Nat
def En.me (e : En) : MapEntry := ⟨plV e.pl, .pointer (some ⟨e.blk, 0, none⟩), e.born⟩
/-- an entry of the versions -/
structure Ve where
  key : Int
  a : Option Addr
  n : Nat
  c : Nat
  names : List ByteArray
  born : Nat
def Ve.me (v : Ve) : MapEntry := ⟨.int .i64 v.key, .agg #[.slice v.a v.n v.c], v.born⟩
abbrev cold : Array Value := #[.int .u32 0, .int .i32 0, .int .u32 0, .map none, .map none]
abbrev warm (r q : Nat) : Array Value := #[.int .u32 1, .int .i32 0, .int .u32 0, .map (some r), .map (some q)]
def names8 (l : List ByteArray) : List Value := l.map .string
structure Warm (w : World) (b r q : Nat) (L : List En) (V : List Ve) (W G : Nat → Prop) : Prop where
  bk : w.heap[b]? = some (.cells (warm r q) 69 (0, 0))
  fb : W b
  wr : W r
  wq : W q
  nbr : b ≠ r
  nbq : b ≠ q
  nrq : r ≠ q
  lt : ∀ k, W k ∨ G k → k < w.heap.size
  dis : ∀ k, W k → ¬ G k
  sums : ∃ c, w.heap[r]? = some (.map (L.map En.me).toArray c) ∧ ∀ e ∈ L, e.born < c
  ent : ∀ e ∈ L, PlOk e.pl ∧ SumAt w e.blk e.n ∧ e.n ≤ 18446744073709551615 ∧ W e.blk ∧ e.blk ≠ b ∧ e.blk ≠ r ∧ e.blk ≠ q
  nd1 : (L.map En.pl).Nodup
  nd2 : (L.map En.blk).Nodup
  nd3 : (L.map En.born).Nodup
  vers : ∃ c, w.heap[q]? = some (.map (V.map Ve.me).toArray c) ∧ ∀ v ∈ V, v.born < c
  vent : ∀ v ∈ V, Reads w v.a (names8 v.names) ∧ v.n = v.names.length ∧ (∀ A, v.a = some A → G A.block) ∧ 1 ≤ v.key ∧ v.key ≤ 4094 ∧ v.names.length ≤ 32
  vnd1 : (V.map Ve.key).Nodup
  vnd2 : (V.map Ve.born).Nodup
/-- a book, ready or not yet -/
structure Book (w : World) (b : Nat) (L : List En) (V : List Ve) (W G : Nat → Prop) : Prop where
  fb : W b
  lt : ∀ k, W k ∨ G k → k < w.heap.size
  dis : ∀ k, W k → ¬ G k
  st : (w.heap[b]? = some (.cells cold 69 (0, 0)) ∧ L = [] ∧ V = []) ∨ ∃ r q, Warm w b r q L V W G
theorem Warm.book {w : World} {b r q : Nat} {L : List En} {V : List Ve} {W G : Nat → Prop} (h : Warm w b r q L V W G) : Book w b L V W G := ⟨h.fb, h.lt, h.dis, .inr ⟨r, q, h⟩⟩
theorem SumAt.keep {S : Nat → Prop} {w w' : World} {k n : Nat} (h : SumAt w k n) (hc : Chg S w w') (hs : ¬ S k) : SumAt w' k n := hc.blk h hs
theorem Warm.keep {S : Nat → Prop} {w w' : World} {b r q : Nat} {L : List En} {V : List Ve} {W G : Nat → Prop} (h : Warm w b r q L V W G) (hc : Chg S w w') (hs : ∀ k, W k ∨ G k → ¬ S k) : Warm w' b r q L V W G where
  bk := hc.blk h.bk (hs b (.inl h.fb))
  fb := h.fb
  wr := h.wr
  wq := h.wq
  nbr := h.nbr
  nbq := h.nbq
  nrq := h.nrq
  lt := fun k hk => Nat.lt_of_lt_of_le (h.lt k hk) hc.size
  dis := h.dis
  sums := by
    obtain ⟨c, h1, h2⟩ := h.sums
    exact ⟨c, hc.blk h1 (hs r (.inl h.wr)), h2⟩
  ent := fun e he => by
    obtain ⟨h1, h2, h3, h4, h5⟩ := h.ent e he
    exact ⟨h1, h2.keep hc (hs _ (.inl h4)), h3, h4, h5⟩
  nd1 := h.nd1
  nd2 := h.nd2
  nd3 := h.nd3
  vers := by
    obtain ⟨c, h1, h2⟩ := h.vers
    exact ⟨c, hc.blk h1 (hs q (.inl h.wq)), h2⟩
  vent := fun v hv => by
    obtain ⟨h1, h2, h3, h4⟩ := h.vent v hv
    exact ⟨h1.chg hc fun A hA => hs _ (.inr (h3 A hA)), h2, h3, h4⟩
  vnd1 := h.vnd1
  vnd2 := h.vnd2
theorem Book.keep {S : Nat → Prop} {w w' : World} {b : Nat} {L : List En} {V : List Ve} {W G : Nat → Prop} (h : Book w b L V W G) (hc : Chg S w w') (hs : ∀ k, W k ∨ G k → ¬ S k) : Book w' b L V W G where
  fb := h.fb
  lt := fun k hk => Nat.lt_of_lt_of_le (h.lt k hk) hc.size
  dis := h.dis
  st := by
    rcases h.st with ⟨h1, h2⟩ | ⟨r, q, h1⟩
    · exact .inl ⟨hc.blk h1 (hs b (.inl h.fb)), h2⟩
    · exact .inr ⟨r, q, h1.keep hc hs⟩
theorem New_ok (w : World) : Calls Try.prog 14 #[] w (endW (fun v w' => v = .pointer (some ⟨w.heap.size, 0, none⟩) ∧ Chg NoS w w' ∧ Book w' w.heap.size [] [] (fun k => k = w.heap.size) (fun _ => False)) (fun _ _ => False)) := by
  refine F14_calls ?_
  delta F14
  have z := size_alloc w (.cells cold 69)
  refine ⟨rfl, chg_alloc w _ NoS, rfl, fun k hk => ?_, fun k _ h => h, .inl ⟨blk_alloc w _, rfl, rfl⟩⟩
  rcases hk with rfl | hk
  · exact Nat.lt_of_lt_of_eq (Nat.lt_succ_self _) z.symm
  · exact hk.elim
theorem mk66 (w : World) : (Instr.makeMap 66 none).run Try.prog w = .ok (.map (some w.heap.size)) (w.alloc (.map #[] 0)) := rfl
theorem mk67 (w : World) : (Instr.makeMap 67 none).run Try.prog w = .ok (.map (some w.heap.size)) (w.alloc (.map #[] 0)) := rfl
/-- the two maps are made -/
theorem Maps_ok {w : World} {b c : Nat} {x0 x1 x2 x3 x4 : Value} (hb : w.heap[b]? = some (.cells #[x0, x1, x2, x3, x4] 69 (0, 0))) (hc : w.heap[c]? = some (.cells #[.pointer (some ⟨b, 0, none⟩)] 27 (0, 0))) (hbc : b ≠ c) :
    Calls Try.prog 22 #[.pointer (some ⟨c, 0, none⟩)] w (endW (fun v w' => v = .tuple #[] ∧ w'.heap[b]? = some (.cells #[x0, x1, x2, .map (some w.heap.size), .map (some (w.heap.size + 1))] 69 (0, 0)) ∧ w'.heap[w.heap.size]? = some (.map #[] 0) ∧ w'.heap[w.heap.size + 1]? = some (.map #[] 0) ∧ Chg (OnlyB b) w w' ∧ w'.heap.size = w.heap.size + 2) (fun _ _ => False)) := by
  have hbl := lt_of_blk hb
  have hcl := lt_of_blk hc
  refine F22_calls (some ⟨c, 0, none⟩) ?_
  delta F22
  rw [wSome_some']
  refine ⟨_, (cell_blk hc 0).trans rfl, ?_⟩
  refine runV_of_ok (mk66 w) ⟨_, rfl, ?_⟩
  have c1 := chg_alloc w (.map #[] 0) NoS
  have z1 := size_alloc w (.map #[] 0)
  have b1 := blk_alloc w (.map #[] 0)
  have hb1 := c1.blk hb (fun x => x)
  have hc1 := c1.blk hc (fun x => x)
  generalize w.alloc (.map #[] 0) = w1 at *
  rw [wSome_some', addK_lit, Nat.zero_add]
  refine setW_blk hb1 (by simp) rfl fun w2 b2 c2 z2 => ?_
  have hc2 := c2.blk hc1 (fun e => hbc e.symm)
  have m2 := c2.blk b1 (fun e => by have : w.heap.size = b := e; omega)
  rw [wSome_some']
  refine ⟨_, (cell_blk hc2 0).trans rfl, ?_⟩
  refine runV_of_ok (mk67 w2) ⟨_, rfl, ?_⟩
  have c3 := chg_alloc w2 (.map #[] 0) NoS
  have z3 := size_alloc w2 (.map #[] 0)
  have b3 := blk_alloc w2 (.map #[] 0)
  have hb3 := c3.blk b2 (fun x => x)
  have m3 := c3.blk m2 (fun x => x)
  generalize w2.alloc (.map #[] 0) = w3 at *
  rw [wSome_some', addK_lit, Nat.zero_add]
  refine setW_blk hb3 (by simp) rfl fun w4 b4 c4 z4 => ?_
  have e2 : w2.heap.size = w.heap.size + 1 := by omega
  rw [e2] at b3 b4
  refine ⟨rfl, b4, c4.blk m3 (fun e => by have : w.heap.size = b := e; omega), c4.blk b3 (fun e => by have : w.heap.size + 1 = b := e; omega), ?_, by omega⟩
  exact (((c1.mono fun _ _ x => x.elim).trans c2).trans (c3.mono fun _ _ x => x.elim)).trans c4
end Go.Proofs.Ytaomfaehgbgdgaa.B
