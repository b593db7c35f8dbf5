/-
  What the document says of an air: it holds.
-/
import Derived.Test.YtcfagkmkfjhhiaaAirD
import Derived.Test.YtcfagkmkfjhhiaaEngN
set_option linter.unusedVariables false
set_option linter.unusedSimpArgs false
namespace Go.Proofs.Ytcfagkmkfjhhiaa.B
open Go Go.Proofs Go.Proofs.YtcfagkmkfjhhiaaEng

/-- An air of the call's own, and nothing older has changed. -/
def St (w0 w : World) (p : Nat) (ds cs : List Dg) : Prop := ∃ fp, AirSt w w0.heap.size p fp ds cs ∧ Chg NoS w0 w

theorem St.step {w0 w w' : World} {p : Nat} {fp fp' : Nat → Prop} {ds cs ds' cs' : List Dg} (hA : AirSt w w0.heap.size p fp ds cs) (h0 : Chg NoS w0 w) (hA' : AirSt w' w0.heap.size p fp' ds' cs') (hc : Chg fp w w') : St w0 w' p ds' cs' := by
  obtain ⟨vl, vc, hA⟩ := hA
  exact ⟨fp', hA', h0.trans2 hc fun k hk hx => by have := hA.fpb k hx; omega⟩
theorem St.other {w0 w w' : World} {p : Nat} {ds cs : List Dg} (h : St w0 w p ds cs) (hc : Chg NoS w w') : St w0 w' p ds cs := by
  obtain ⟨fp, ⟨vl, vc, hA⟩, h0⟩ := h
  exact ⟨fp, ⟨vl, vc, hA.chg hc (fun _ _ x => x)⟩, h0.trans hc⟩

theorem St.put {w0 w : World} {p n c : Nat} {ds cs : List Dg} {a : Option Addr} {bs : List Value} (h : St w0 w p ds cs) (hn : bs.length = n) (hr : Reads w a bs) (h0 : a = none → n = 0) (hb : bytesV bs) (hl : n ≤ 1099511627776) (hl2 : ds.length ≤ 1099511627776) :
    Calls Try.prog 11 #[.pointer (some ⟨p, 0, none⟩), .slice a n c] w (endW (fun v w' => v = .tuple #[] ∧ ∃ d : Dg, d.n = n ∧ d.bs = bs ∧ d.ch = false ∧ St w0 w' p (ds ++ [d]) cs) (fun _ _ => False)) := by
  obtain ⟨fp, hA, hc0⟩ := h
  refine (Put_ok hA hn hr h0 hb hl hl2 (c := c)).mono fun e w' h => ?_
  cases e with
  | panicked _ => exact h.elim
  | outgrown => exact h.elim
  | returned v =>
    obtain ⟨hv, d, h1, h2, h3, hA', hc⟩ := h
    exact ⟨hv, d, h1, h2, h3, St.step hA hc0 hA' hc⟩
theorem St.do {w0 w : World} {p : Nat} {ds cs : List Dg} (h : St w0 w p ds cs) (what at_ : Int) (h0 : 0 ≤ what) (h5 : what < 5) (ha : 0 ≤ at_) (hne : 0 < ds.length) (hl : ds.length ≤ 1099511627776) (hl2 : cs.length ≤ 1099511627776) (ha2 : at_ ≤ 9223372036854775807) (hbl : ∀ d ∈ ds, d.n ≤ 1099511627776) :
    Calls Try.prog 16 #[.pointer (some ⟨p, 0, none⟩), .int .u8 what, .int .i64 at_] w (endW (fun v w' => v = .int .i64 0 ∧ ∃ ds' cs', Deed at_ what ds cs ds' cs' ∧ St w0 w' p ds' cs') (fun _ _ => False)) := by
  obtain ⟨fp, hA, hc0⟩ := h
  refine (Do_ok hA what at_ h0 h5 ha hne hl hl2 ha2 hbl).mono fun e w' h => ?_
  cases e with
  | panicked _ => exact h.elim
  | outgrown => exact h.elim
  | returned v =>
    obtain ⟨hv, ds', cs', hd, hA', hc⟩ := h
    exact ⟨hv, ds', cs', hd, St.step hA hc0 hA' hc⟩

theorem ends {e : Ending} {w : World} {A B : Value → World → Prop} {E : PanW} (h : endW A (fun _ _ => False) e w) (hk : ∀ v w, A v w → B v w) : endW B E e w := by
  cases e with
  | panicked _ => exact h.elim
  | outgrown => exact h.elim
  | returned v => exact hk v w h
theorem Calls.then {f : Nat} {args : Array Value} {w : World} {A B : Value → World → Prop} {E : PanW} (h : Calls Try.prog f args w (endW A (fun _ _ => False))) (hk : ∀ v w, A v w → B v w) : Calls Try.prog f args w (endW B E) :=
  h.mono fun _ _ h => ends h hk

def bv (l : List UInt8) : List Value := l.map fun x => .int .u8 x.toNat
theorem bytesV_bv (l : List UInt8) : bytesV (bv l) := fun u hu => by
  obtain ⟨x, _, rfl⟩ := List.mem_map.1 hu
  exact ⟨x, rfl⟩

theorem Deed.inv0 {at_ : Int} {ds cs ds' cs' : List Dg} (h : Deed at_ 0 ds cs ds' cs') : ∃ x, ds[plc at_ ds.length]? = some x ∧ ds' = ds.eraseIdx (plc at_ ds.length) ∧ cs' = cs ++ [x] := by
  generalize hw : (0 : Int) = w at h
  cases h <;> first | omega | exact ⟨_, by assumption, rfl, rfl⟩
theorem Deed.inv3 {at_ : Int} {ds cs ds' cs' : List Dg} (h : Deed at_ 3 ds cs ds' cs') : ∃ x, ds[plc at_ ds.length]? = some x ∧ cs' = cs ∧
    ((ds' = ds ∧ (x.ch = true ∨ x.n = 0)) ∨ (∃ (y : Dg) (b : UInt8), x.ch = false ∧ x.n ≠ 0 ∧ x.bs[plc (at_.tdiv ds.length) x.n]? = some (.int .u8 b.toNat) ∧ y.n = x.n ∧ y.ch = true ∧ y.bs = x.bs.set (plc (at_.tdiv ds.length) x.n) (.int .u8 (b ^^^ 0x5a).toNat) ∧ ds' = ds.set (plc at_ ds.length) y)) := by
  generalize hw : (3 : Int) = w at h
  cases h with
  | same _ _ x h hc => exact ⟨x, h, rfl, .inl ⟨rfl, hc⟩⟩
  | change _ _ x y b h hc hb hy => exact ⟨x, h, rfl, .inr ⟨y, b, hc.1, hc.2, hb, hy.1, hy.2.1, hy.2.2, rfl⟩⟩
  | _ => omega

theorem Wakes_ok (w : World) : Calls Try.prog 9 #[] w (endW (fun v w' => v = .bool true ∧ Chg NoS w w') (fun _ _ => False)) := by
  refine F9_calls ?_
  unfold F9
  refine Calls.then (New_ok w w.heap.size (Nat.le_refl _)) ?_
  rintro v w1 ⟨rfl, hA, hc, _⟩
  have h1 : St w w1 w.heap.size [] [] := ⟨_, hA, hc⟩
  refine ⟨_, rfl, ?_⟩
  refine conv_const Try.underlying31 Try.underlying5 ?_
  intro w2 _ hr hc _
  refine ⟨_, _, _, rfl, ?_⟩
  refine Calls.then ((h1.other hc).put (bs := bv [97, 98]) rfl hr (fun e => by cases e) (bytesV_bv _) (by omega) (by simp)) ?_
  rintro v w3 ⟨rfl, d1, hn1, hb1, hf1, h3⟩
  refine conv_const Try.underlying31 Try.underlying5 ?_
  intro w4 _ hr hc _
  refine ⟨_, _, _, rfl, ?_⟩
  refine Calls.then ((h3.other hc).put (bs := bv [99, 100]) rfl hr (fun e => by cases e) (bytesV_bv _) (by omega) (by simp)) ?_
  rintro v w5 ⟨rfl, d2, hn2, hb2, hf2, h5⟩
  refine ⟨fun _ w' => ∃ d2 d1 : Dg, d2.n = 2 ∧ d2.bs = bv [99, 100] ∧ d1.n = 2 ∧ d1.bs = bv [97, 56] ∧ St w w' w.heap.size [] [d2, d1], ?_, ?_⟩
  · rintro _ w1 ⟨d2, d1, hn2, hb2, hn1, hb1, h⟩ junk
    obtain ⟨fp, hA, hc0⟩ := h
    refine Calls.then (Came_ok hA) ?_
    rintro v w2 ⟨a, rfl, ⟨vc, c, hvc, hrow⟩, hrows, _, fp', hA', hfp, _, _, hc, _⟩
    refine ⟨_, _, _, rfl, ?_⟩
    rw [if_pos (by simp)]
    refine ⟨by omega, by simp, ?_⟩
    rw [hvc] at hrow
    obtain ⟨A, rfl, hc1⟩ := own_cell hrow (j := 0) (u := d2.v) rfl
    obtain ⟨A', e, hc2⟩ := own_cell hrow (j := 1) (u := d1.v) rfl
    cases e
    obtain ⟨a2, c2, hv2, _, hf2⟩ := own_form (hrows d2 (by simp)).1
    obtain ⟨a1, c1, hv1, _, hf1⟩ := own_form (hrows d1 (by simp)).1
    have hr2 := (hrows d2 (by simp)).1
    have hr1 := (hrows d1 (by simp)).1
    rw [hv2] at hc1 hr2
    rw [hv1] at hc2 hr1
    show ∃ _, _
    refine ⟨_, _, _, hc1, ?_⟩
    refine conv_str Try.underlying31 Try.underlying5 Try.underlying9 (bs := [99, 100]) (fun A h => by obtain ⟨g, rfl⟩ := hf2 A h; rfl) hn2.symm (by have := own_reads' hr2; rw [hb2] at this; exact this) ?_
    refine ⟨_, rfl, ?_⟩
    rw [if_pos (by simp)]
    refine ⟨by omega, by simp, ?_⟩
    show ∃ _, _
    refine ⟨_, _, _, hc2, ?_⟩
    refine conv_str Try.underlying31 Try.underlying5 Try.underlying9 (bs := [97, 56]) (fun A h => by obtain ⟨g, rfl⟩ := hf1 A h; rfl) hn1.symm (by have := own_reads' hr1; rw [hb1] at this; exact this) ?_
    refine ⟨_, rfl, ?_⟩
    rw [if_pos (by simp)]
    refine Calls.then (Came_ok hA') ?_
    rintro v w3 ⟨a3, rfl, _, _, _, _, _, _, _, _, hc3, _⟩
    refine ⟨_, _, _, rfl, by simp, ?_⟩
    obtain ⟨vl, vc', hA⟩ := hA
    exact (hc0.trans2 hc fun k hk hx => by have := hA.fpb k hx; omega).trans2 hc3 fun k hk hx => by have := hA.fpb k (hfp k hx); omega
  · simp only [List.nil_append, List.cons_append] at h5
    refine Calls.then (h5.do 0 3 (by omega) (by omega) (by omega) (by simp) (by simp) (by simp) (by omega) (by simp [hn1, hn2])) ?_
    rintro v w6 ⟨rfl, ds', cs', hd, h6⟩
    obtain ⟨x, hx, rfl, rfl⟩ := hd.inv0
    have e : plc 3 [d1, d2].length = 1 := show plc 3 2 = 1 by decide
    rw [e] at hx h6
    obtain rfl : d2 = x := by simpa using hx
    simp only [List.nil_append, List.eraseIdx_cons_succ, List.eraseIdx_cons_zero] at h6
    refine ⟨_, rfl, ?_⟩
    rw [if_pos (by simp)]
    refine Calls.then (h6.do 3 1 (by omega) (by omega) (by omega) (by simp) (by simp) (by simp) (by omega) (by simp [hn1, hn2])) ?_
    rintro v w7 ⟨rfl, ds', cs', hd, h7⟩
    obtain ⟨x, hx, rfl, h⟩ := hd.inv3
    have e : plc 1 [d1].length = 0 := show plc 1 1 = 0 by decide
    rw [e] at hx h
    obtain rfl : d1 = x := by simpa using hx
    rcases h with ⟨_, h | h⟩ | ⟨y, b, hc, hn, hb, hyn, hyc, hyb, rfl⟩
    · rw [hf1] at h; cases h
    · omega
    rw [hn1, show plc ((1 : Int).tdiv ([d1].length : Nat)) 2 = 1 from (show plc ((1 : Int).tdiv (1 : Nat)) 2 = 1 by decide)] at hb hyb
    rw [hb1] at hb hyb
    obtain rfl : b = 98 := by
      have : (98 : Int) = (b.toNat : Int) := by simpa [bv] using hb
      apply UInt8.toNat_inj.1
      show b.toNat = 98
      omega
    have hyb : y.bs = bv [97, 56] := hyb
    simp only [List.set_cons_zero] at h7
    refine ⟨_, rfl, ?_⟩
    rw [if_pos (by simp)]
    refine Calls.then (h7.do 3 0 (by omega) (by omega) (by omega) (by simp) (by simp) (by simp) (by omega) (by simp [hyn, hn1])) ?_
    rintro v w8 ⟨rfl, ds', cs', hd, h8⟩
    obtain ⟨x, hx, rfl, h⟩ := hd.inv3
    have e : plc 0 [y].length = 0 := show plc 0 1 = 0 by decide
    rw [e] at hx h
    obtain rfl : y = x := by simpa using hx
    rcases h with ⟨rfl, _⟩ | ⟨_, _, h, _⟩
    rotate_left
    · rw [hyc] at h; cases h
    refine ⟨_, rfl, ?_⟩
    rw [if_pos (by simp)]
    refine Calls.then (h8.do 0 0 (by omega) (by omega) (by omega) (by simp) (by simp) (by simp) (by omega) (by simp [hyn, hn1])) ?_
    rintro v w9 ⟨rfl, ds', cs', hd, h9⟩
    obtain ⟨x, hx, rfl, rfl⟩ := hd.inv0
    rw [e] at hx h9
    obtain rfl : y = x := by simpa using hx
    simp only [List.eraseIdx_cons_zero, List.cons_append, List.nil_append] at h9
    refine ⟨_, rfl, ?_⟩
    rw [if_pos (by simp)]
    obtain ⟨fp, hA9, hc9⟩ := h9
    refine Calls.then (Do_none hA9 0 0 (by omega) (by omega)) ?_
    rintro v w10 ⟨rfl, rfl⟩
    refine ⟨_, rfl, ?_⟩
    rw [if_pos (by simp)]
    refine Calls.then (Do_arg (ds := []) (cs := []) (base := 0) (fp := fun _ => False) 5 0 (.inl (by omega))) ?_
    rintro v w10 ⟨rfl, rfl⟩
    refine ⟨_, rfl, ?_⟩
    rw [if_neg (by simp)]
    exact ⟨(), trivial, d2, y, hn2, hb2, by omega, hyb, fp, hA9, hc9⟩
end Go.Proofs.Ytcfagkmkfjhhiaa.B
