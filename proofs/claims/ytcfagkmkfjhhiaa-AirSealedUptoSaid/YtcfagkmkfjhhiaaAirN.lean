/-
  Two airs side by side: Put and Came.
-/
import Derived.Test.YtcfagkmkfjhhiaaAirM
set_option linter.unusedVariables false
set_option linter.unusedSimpArgs false
namespace Go.Proofs.Ytcfagkmkfjhhiaa.B
open Go Go.Proofs Go.Proofs.YtcfagkmkfjhhiaaEng

theorem J2.put {w0 w : World} {X : Nat → Prop} {p q n c : Nat} {ds cs es fs : List Dg} {a : Option Addr} {bs : List Value} (h : J2 w0 w X p q ds cs es fs) (hn : bs.length = n) (hr : Reads w a bs) (h0 : a = none → n = 0) (hb : bytesV bs) (hl : n ≤ 1099511627776) (hl2 : ds.length ≤ 1099511627776) :
    Calls Try.prog 11 #[.pointer (some ⟨p, 0, none⟩), .slice a n c] w (endW (fun v w' => v = .tuple #[] ∧ ∃ d : Dg, d.n = n ∧ d.bs = bs ∧ d.ch = false ∧ J2 w0 w' X p q (ds ++ [d]) cs es fs ∧ ∃ fp : Nat → Prop, (∀ k, X k → ¬ fp k) ∧ Chg fp w w') (fun _ _ => False)) := by
  obtain ⟨fp, fq, hA, hR, hd, hc0, hX⟩ := h
  refine Calls.then (Put_ok hA hn hr h0 hb hl hl2 (c := c)) ?_
  rintro v w' ⟨hv, d, h1, h2, h3, hA', hc⟩
  exact ⟨hv, d, h1, h2, h3, J2.air hA hR hd hc0 hX hA' hc, fp, fun k hk => (hX k hk).2.1, hc⟩
theorem J2.rput {w0 w : World} {X : Nat → Prop} {p q n c : Nat} {ds cs es fs : List Dg} {a : Option Addr} {bs : List Value} (h : J2 w0 w X p q ds cs es fs) (hn : bs.length = n) (hr : Reads w a bs) (h0 : a = none → n = 0) (hb : bytesV bs) (hl : n ≤ 1099511627776) (hl2 : es.length ≤ 1099511627776) :
    Calls Try.prog 12 #[.pointer (some ⟨q, 0, none⟩), .slice a n c] w (endW (fun v w' => v = .tuple #[] ∧ ∃ d : Dg, d.n = n ∧ d.bs = bs ∧ d.ch = false ∧ J2 w0 w' X p q ds cs (es ++ [d]) fs) (fun _ _ => False)) := by
  obtain ⟨fp, fq, hA, hR, hd, hc0, hX⟩ := h
  refine Calls.then (rPut_ok hR hn hr h0 hb hl hl2 (c := c)) ?_
  rintro v w' ⟨hv, d, h1, h2, h3, hR', hc⟩
  exact ⟨hv, d, h1, h2, h3, J2.ref hA hR hd hc0 hX hR' hc⟩

/-- the blocks of what came -/
def CX (a : Option Addr) (cs : List Dg) : Nat → Prop := fun k => a.map (·.block) = some k ∨ k ∈ blks cs
def Came (w : World) (base : Nat) (a : Option Addr) (cs : List Dg) : Prop := (∃ c, w.ownsRow base 31 1 (.slice a cs.length c) cs.length (cs.map Dg.v)) ∧ (∀ d ∈ cs, w.ownsRow base 5 1 d.v d.n d.bs ∧ bytesV d.bs) ∧ (blks cs).Nodup
theorem J2.came {w0 w : World} {p q : Nat} {ds cs es fs : List Dg} (h : J2 w0 w (fun _ => False) p q ds cs es fs) :
    Calls Try.prog 13 #[.pointer (some ⟨p, 0, none⟩)] w (endW (fun v w' => ∃ a, v = .slice a cs.length cs.length ∧ Came w' w0.heap.size a cs ∧ J2 w0 w' (CX a cs) p q ds [] es fs) (fun _ _ => False)) := by
  obtain ⟨fp, fq, hA, hR, hd, hc0, hX⟩ := h
  refine Calls.then (Came_ok hA) ?_
  rintro v w' ⟨a, rfl, ⟨vc, c, rfl, hrow⟩, hrows, hnd, fp', hA', hfp, ha, hb, hc, hsz⟩
  refine ⟨a, rfl, ⟨⟨c, hrow⟩, hrows, hnd⟩, ?_⟩
  obtain ⟨vl, vc2, hA⟩ := hA
  obtain ⟨rl, rc, hR⟩ := hR
  refine ⟨fp', fq, hA', ⟨rl, rc, hR.chg hc (fun k hk h => hd k h hk)⟩, fun k hk => hd k (hfp k hk), hc0.trans2 hc (fun k hk hx => by have := hA.fpb k hx; omega), fun k hk => ?_⟩
  have hk' : fp k ∧ ¬ fp' k := hk.elim (ha k) (hb k)
  have := hA.fpb k hk'.1
  exact ⟨⟨this.1, by omega⟩, hk'.2, hd k hk'.1⟩
theorem J2.rcame {w0 w : World} {X : Nat → Prop} {p q : Nat} {ds cs es fs : List Dg} (h : J2 w0 w X p q ds cs es fs) :
    Calls Try.prog 15 #[.pointer (some ⟨q, 0, none⟩)] w (endW (fun v w' => ∃ a c, v = .slice a fs.length c ∧ Came w' w0.heap.size a fs ∧ J2 w0 w' X p q ds cs es [] ∧ ∃ fq : Nat → Prop, (∀ k, X k → ¬ fq k) ∧ Chg fq w w') (fun _ _ => False)) := by
  obtain ⟨fp, fq, hA, hR, hd, hc0, hX⟩ := h
  refine Calls.then (rCame_ok hR) ?_
  rintro v w' ⟨a, ⟨c1, rfl⟩, ⟨vc, c, rfl, hrow⟩, hrows, hnd, fq', hR', hfq, ha, hb, hc, hsz⟩
  refine ⟨a, c1, rfl, ⟨⟨c, hrow⟩, hrows, hnd⟩, ?_, fq, fun k hk => (hX k hk).2.2, hc⟩
  obtain ⟨vl, vc2, hA⟩ := hA
  obtain ⟨rl, rc, hR⟩ := hR
  exact ⟨fp, fq', ⟨vl, vc2, hA.chg hc (fun k hk h => hd k hk h)⟩, hR', fun k hk h => hd k hk (hfq k h), hc0.trans2 hc (fun k hk hx => by have := hR.fpb k hx; omega), fun k hk => ⟨⟨(hX k hk).1.1, by have := (hX k hk).1.2; omega⟩, (hX k hk).2.1, fun h => (hX k hk).2.2 (hfq k h)⟩⟩
theorem Came.chg {S : Nat → Prop} {w w' : World} {base : Nat} {a : Option Addr} {cs : List Dg} (h : Came w base a cs) (hc : Chg S w w') (hs : ∀ k, CX a cs k → ¬ S k) : Came w' base a cs := by
  obtain ⟨⟨c, h1⟩, h2, h3⟩ := h
  refine ⟨⟨c, own_of_chg h1 hc (fun k hk => hs k (.inl ?_))⟩, fun d hd => ⟨own_of_chg (h2 d hd).1 hc (fun k hk => hs k (.inr (mem_blks.2 ⟨d, hd, hk⟩))), (h2 d hd).2⟩, h3⟩
  cases a with
  | none => simp [Value.ownBlock] at hk
  | some A => simpa [Value.ownBlock] using hk
theorem Came.lb {w : World} {base c : Nat} {a : Option Addr} {cs : List Dg} (h : Came w base a cs) (hl : cs.length ≤ 1099511627776) (hn : ∀ d ∈ cs, d.n ≤ 1099511627776) : LB w (.slice a cs.length c) (cs.map Dg.bs) := by
  obtain ⟨⟨c', h1⟩, h2, h3⟩ := h
  refine ⟨a, _, c, rfl, by simp, hl, fun j bs hj => ?_⟩
  obtain ⟨d, hd, rfl⟩ : ∃ d, cs[j]? = some d ∧ d.bs = bs := by simpa using hj
  obtain ⟨A, rfl, hcell⟩ := own_cell h1 (j := j) (u := d.v) (by simp [hd])
  have hm := List.mem_of_getElem? hd
  obtain ⟨ad, cd, hv, _, _⟩ := own_form (h2 d hm).1
  refine ⟨A, d.v, rfl, hcell, ad, d.n, cd, hv, ?_, hn d hm, ?_, (h2 d hm).2⟩
  · have := (h2 d hm).1.1; omega
  · have := (h2 d hm).1
    rw [hv] at this
    exact own_reads' this
end Go.Proofs.Ytcfagkmkfjhhiaa.B
