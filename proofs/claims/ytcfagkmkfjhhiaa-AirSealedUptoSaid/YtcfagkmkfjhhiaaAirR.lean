/-
  AirSealed: the walk.
-/
import Derived.Test.YtcfagkmkfjhhiaaAirQ
set_option linter.unusedVariables false
set_option linter.unusedSimpArgs false
namespace Go.Proofs.Ytcfagkmkfjhhiaa.S
open Go Go.Proofs Go.Proofs.Ytcfagkmkfjhhiaa.B Go.Proofs.YtcfagkmkfjhhiaaCrc
open Go.Proofs.YtcfagkmkfjhhiaaEng hiding Calls.then

structure P1 where
  a : Option Addr
  n : Nat
  c : Nat
  bs : List UInt8
/-- The rows that came in. -/
def Puts (w : World) (la : Option Addr) (L : List P1) : Prop := ∀ (j : Nat) (x : P1), L[j]? = some x → ∃ A, la = some A ∧ w.cell? (addK A j) = some (.slice x.a x.n x.c) ∧ x.bs.length = x.n ∧ (x.a = none → x.n = 0) ∧ Reads w x.a (vals x.bs)
theorem Puts.keep {w w' : World} {la : Option Addr} {L : List P1} (h : Puts w la L) (hc : Chg NoS w w') : Puts w' la L := fun j x hx => by
  obtain ⟨A, hA, h1, h2, h3, h4⟩ := h j x hx
  exact ⟨A, hA, cell_keep h1 hc, h2, h3, h4.chg hc (fun _ _ x => x)⟩
theorem puts_in {w : World} {m : Nat} {la : Option Addr} {len cap : Nat} (h : Is 1048576 Try.prog w (m + 3) 28 [.slice la len cap]) : ∃ L, L.length = len ∧ len ≤ cap ∧ cap ≤ 1048576 ∧ Puts w la L := by
  obtain ⟨a', n', c', e, h1, h2, h3, h4⟩ := h.slice Try.underlying28
  injection e with e _
  injection e with e1 e2 e3
  subst e1
  subst e2
  subst e3
  obtain ⟨L, hl, hL⟩ := build_list (p := fun (j : Nat) (x : P1) => ∃ A, la = some A ∧ w.cell? (addK A j) = some (.slice x.a x.n x.c) ∧ x.bs.length = x.n ∧ (x.a = none → x.n = 0) ∧ Reads w x.a (vals x.bs)) len (by
    intro i hi
    cases la with
    | none => have := h3 rfl; omega
    | some A =>
      obtain ⟨es, he, hes⟩ := h4 A rfl i (by omega)
      obtain ⟨a2, n2, c2, rfl, _⟩ := hes.slice Try.underlying31
      obtain ⟨bs, g1, g2, g3, g4, g5⟩ := bytes_of_is hes
      rw [cells31', Nat.mul_one] at he
      have h6 := (World.cells?_some he).2.2 0 (by omega)
      rw [show (A.add i).add 0 = A.add i from by simp [Addr.add]] at h6
      exact ⟨⟨a2, n2, c2, bs⟩, A, rfl, h6, g1, g4, g5⟩)
  exact ⟨L, hl, h1, h2, hL⟩

theorem AirSealed_ok {w : World} {pa la : Option Addr} {plen pcap len cap : Nat} {P : List P1} {L : List A1} (hpl : P.length = plen) (hP : Puts w pa P) (hl : L.length = len) (hL : Acts w la L) (hm : len ≤ 1048576) :
    Calls Try.prog 7 #[.slice pa plen pcap, .slice la len cap] w (endW (fun v w' => v = .bool true ∧ Chg NoS w w') (fun _ _ => False)) := by
  refine F7_calls pa plen pcap la len cap ?_
  delta F7
  have wk : ∀ w1, Chg NoS w w1 → Calls Try.prog 9 #[] w1 (endW (fun v w' => ∃ b, v = Value.bool b ∧ Value.bool b = .bool true ∧ Chg NoS w w') (fun _ _ => False)) := fun w1 hc => by
    refine Calls.then (Wakes_ok w1) ?_
    rintro v w2 ⟨rfl, hc2⟩
    exact ⟨_, rfl, rfl, hc.trans hc2⟩
  refine ⟨fun _ w1 => w1 = w ∧ plen ≤ 40 ∧ len ≤ 300 ∧ ∀ x ∈ L, x.n ≤ 65536, ?_, ?_⟩
  rotate_left
  · refine Calls.then (Great_ok hl hL hm) ?_
    rintro v w1 ⟨rfl, b, rfl, hg⟩
    refine ⟨b, rfl, ?_⟩
    by_cases hb : b = false
    · rw [if_pos hb]
      by_cases h40 : plen ≤ 40
      · rw [if_neg (by simp; omega)]
        exact ⟨(), trivial, rfl, h40, hg hb⟩
      · rw [if_pos (by simp; omega)]
        exact wk _ (Chg.refl _ _)
    · rw [if_neg hb]
      exact wk _ (Chg.refl _ _)
  rintro _ w0 ⟨rfl, h40, h300, hsm⟩ _
  refine Calls.then (New_ok w0 w0.heap.size (Nat.le_refl _)) ?_
  rintro v w1 ⟨rfl, hA1, hc1, hs1⟩
  refine ⟨_, rfl, ?_⟩
  refine ⟨fun s w2 => ∃ (i : Nat) (ss ds : List Dg), s.2.2.2 = i ∧ i ≤ plen ∧ s.2.1 = i ∧ ss.length = i ∧ ds.length = i ∧ Seals w2 w0.heap.size s.1 s.2.2.1 ss ∧ J1 w0 w2 (CX s.1 ss) w0.heap.size ds [] ∧ (∀ d ∈ ds, Near ss d) ∧ Chg NoS w0 w2, fun s _ => (plen - s.2.2.2).toNat, ⟨(none, 0, 0, 0), ⟨rfl, rfl, trivial⟩, 0, [], [], rfl, by omega, rfl, rfl, rfl, ⟨own_nil' _ _ _ _, (fun d hd => by cases hd), (fun d hd => by cases hd)⟩, ⟨_, hA1, hc1, fun k hk => by rcases hk with hk | hk <;> simp [blks] at hk⟩, (fun d hd => by cases hd), hc1⟩, ?_⟩
  rintro ⟨sa, sn, sc, si⟩ w2 ⟨i, ss, ds, hi, hip, hsn, hsl, hdl, hS, hJ, hN, hc02⟩ _
  dsimp only at hi hsn hS hJ ⊢
  subst hi
  subst hsn
  by_cases hlt : (sn : Int) < plen
  · rw [if_pos (by simpa using hlt)]
    have hj : sn < P.length := by omega
    obtain ⟨A, rfl, hcell, hbn, hb0, hbr⟩ := (hP.keep hc02) sn _ (List.getElem?_eq_getElem hj)
    refine ⟨by omega, by omega, P[sn].a, _, P[sn].c, by simpa using hcell, ?_⟩
    by_cases hlong : P[sn].n ≤ 16384
    · refine Calls.then (Seal_ok hbn hbr hb0 hlong) ?_
      rintro v w3 ⟨a3, c3, rfl, ho3, hc3⟩
      refine ⟨[_, _], rfl, _, _, rfl, a3, _, c3, rfl, _, _, rfl, 0, rfl, rfl, ?_⟩
      rw [if_neg (by decide)]
      subst hsl
      refine Seals.push hS hJ hc3 ho3 (by omega) (by omega) ?_
      intro a4 c4 w4 hS4 hJ4 hc04
      refine ⟨_, _, _, rfl, ?_⟩
      have hd4 := hS4.each ⟨.slice a3 (P[ss.length].n + 4) c3, P[ss.length].n + 4, vals (sealed P[ss.length].bs), false⟩ (by simp)
      obtain ⟨hr4, _, hn4, _, _⟩ := own_reads_v hd4
      refine Calls.then (hJ4.put (by rw [vals_length, sealed_length]; omega) hr4 hn4 (bytesV_vals _) (by omega) (by omega)) ?_
      rintro v w5 ⟨d, hd1, hd2, hd3, hJ5, fp, hfp, hc5⟩
      have hlen : (ss ++ [(⟨.slice a3 (P[ss.length].n + 4) c3, P[ss.length].n + 4, vals (sealed P[ss.length].bs), false⟩ : Dg)]).length = ss.length + 1 := by simp
      refine ⟨(a4, ss.length + 1, c4, (ss.length : Int) + 1), ⟨rfl, by rw [wrap1 _ (by omega) (by omega)], trivial⟩, ⟨ss.length + 1, _, ds ++ [d], by dsimp only; omega, by omega, rfl, hlen, by simp; omega, hS4.chg hc5 hfp, hJ5, ?_, by obtain ⟨_, _, h, _⟩ := hJ5; exact h⟩, by dsimp only; omega⟩
      intro x hx
      rcases List.mem_append.1 hx with hx | hx
      · exact (hN x hx).more
      · rw [List.mem_singleton.1 hx]
        exact ⟨_, List.mem_append_right _ (List.mem_singleton.2 rfl), P[ss.length].bs, by omega, rfl, by omega, .inl ⟨hd3, hd2⟩⟩
    · refine Calls.then (Seal_long (by omega)) ?_
      rintro v w3 ⟨rfl, rfl⟩
      refine ⟨[_, _], rfl, _, _, rfl, none, 0, 0, rfl, _, _, rfl, 3, rfl, rfl, ?_⟩
      rw [if_pos (by decide)]
      exact wk _ hc02
  rw [if_neg (by simpa using hlt)]
  refine ⟨fun s w3 => ∃ (i : Nat) (ds cs : List Dg), s = i ∧ i ≤ len ∧ ds.length + cs.length ≤ plen + i ∧ Seals w3 w0.heap.size sa sc ss ∧ J1 w0 w3 (CX sa ss) w0.heap.size ds cs ∧ (∀ d ∈ ds ++ cs, Near ss d) ∧ Chg NoS w0 w3, fun s _ => (len - s).toNat, ⟨0, ⟨rfl, trivial⟩, 0, ds, [], rfl, by omega, by simp; omega, hS, hJ, by simpa using hN, hc02⟩, ?_⟩
  clear hJ hS hN hc02 hdl
  clear ds w2
  rintro s w2 ⟨i, ds, cs, rfl, hil, hdl, hS, hJ, hN, hc02⟩ _
  have hshort : ∀ d ∈ ds ++ cs, d.n ≤ 16388 := fun d hd => by obtain ⟨_, _, b, h1, _, h2, _⟩ := hN d hd; omega
  by_cases hlt2 : (i : Int) < len
  · rw [if_pos (by simpa using hlt2)]
    have hj : i < L.length := by omega
    obtain ⟨A, rfl, hx0, hx1, hx2, hd0, hd1, ht0, ht1, hbx⟩ := (hL.keep hc02) i _ (List.getElem?_eq_getElem hj)
    have hcd := chg_drew w2 NoS
    refine ⟨by omega, by omega, by omega, by omega, _, by simpa using cell_keep hx0 hcd, _, by simpa using cell_keep hx1 hcd, ?_⟩
    refine Calls.then ((hJ.other hcd).did _ _ hd0 (by omega) (by omega) ht1 (fun d hd => by have := hshort d (List.mem_append_left _ hd); omega)) ?_
    rintro v w3 ⟨e, rfl, ds', cs', hdid, hJ3, fp, hfp, hc3⟩
    have hlen3 := hdid.len
    exact ⟨e, rfl, (i : Int) + 1, ⟨by rw [wrap1 _ (by omega) (by omega)], trivial⟩, ⟨i + 1, ds', cs', by omega, by omega, by omega, (hS.chg hcd (fun _ _ x => x)).chg hc3 hfp, hJ3, Near.did hdid hN, by obtain ⟨_, _, h, _⟩ := hJ3; exact h⟩, by dsimp only; omega⟩
  rw [if_neg (by simpa using hlt2)]
  refine Calls.then hJ.came ?_
  rintro v w3 ⟨a3, rfl, hC3, hc03, fp, hfp, hc3⟩
  have hS3 := hS.chg hc3 hfp
  refine ⟨_, _, _, rfl, ?_⟩
  refine ⟨fun s w4 => ∃ k : Nat, s = k ∧ k ≤ cs.length ∧ Chg NoS w3 w4, fun s _ => (cs.length - s).toNat, ⟨0, ⟨rfl, trivial⟩, 0, rfl, by omega, Chg.refl _ _⟩, ?_⟩
  rintro s w4 ⟨k, rfl, hk, hc4⟩ _
  have hC4 := hC3.chg hc4 (fun _ _ x => x)
  have hS4 := hS3.chg hc4 (fun _ _ x => x)
  by_cases hkl : (k : Int) < cs.length
  · rw [if_pos (by simpa using hkl)]
    have hk' : k < cs.length := by omega
    obtain ⟨xs, hxs, h4, hmx, hxn, hiff⟩ := (hN _ (List.mem_append_right _ (List.getElem_mem hk'))).good hS4.is
    obtain ⟨cc, hrow⟩ := hC4.1
    have hown := (hC4.2.1 _ (List.getElem_mem hk')).1
    obtain ⟨A, rfl, hcell⟩ := own_cell hrow (j := k) (u := cs[k].v) (by simp [hk'])
    obtain ⟨da, dc, hdv, hdnc, _⟩ := own_form hown
    refine ⟨fun t w5 => ∃ q : Nat, t.2 = q ∧ q ≤ ss.length ∧ Chg NoS w4 w5 ∧ (t.1 = true ↔ ∃ (j : Nat) (s : Dg), j < q ∧ ss[j]? = some s ∧ s.bs = cs[k].bs), fun t _ => (ss.length - t.2).toNat, ⟨(false, 0), ⟨rfl, rfl, trivial⟩, 0, rfl, by omega, Chg.refl _ _, by simp⟩, ?_⟩
    rintro ⟨there, tq⟩ w5 ⟨q, hq, hqs, hc5, hth⟩ _
    dsimp only at hq hth ⊢
    subst hq
    rw [hsl] at hqs ⊢
    by_cases hql : (q : Int) < sn
    · rw [if_pos (by simpa using hql)]
      have hq' : q < ss.length := by omega
      have hcd := chg_drew w5 NoS
      have hnext : ∀ b : Bool, (b = true ↔ there = true ∨ ss[q].bs = cs[k].bs) → (b = true ↔ ∃ (j : Nat) (s : Dg), j < q + 1 ∧ ss[j]? = some s ∧ s.bs = cs[k].bs) := fun b hb => by
        rw [hb, hth]
        constructor
        · rintro (⟨j, s, h1, h2, h3⟩ | h)
          · exact ⟨j, s, by omega, h2, h3⟩
          · exact ⟨q, _, by omega, List.getElem?_eq_getElem hq', h⟩
        · rintro ⟨j, s, h1, h2, h3⟩
          by_cases e : j = q
          · subst e
            rw [List.getElem?_eq_getElem hq'] at h2
            cases h2
            exact .inr h3
          · exact .inl ⟨j, s, by omega, h2, h3⟩
      by_cases ht : there = false
      · rw [if_pos ht]
        have hc45 := hc5.trans hcd
        have hrow5 := own_of_chg hrow hc45 (fun _ _ x => x)
        have hcell5 := cell_keep hcell hc45
        have hS5 := hS4.chg hc45 (fun _ _ x => x)
        have hown5 := own_of_chg hown hc45 (fun _ _ x => x)
        obtain ⟨A2, rfl, hcell2⟩ := own_cell hS5.row (j := q) (u := ss[q].v) (by simp [hq'])
        have hso := hS5.each _ (List.getElem_mem hq')
        obtain ⟨b, hbl, hbb⟩ := hS5.is _ (List.getElem_mem hq')
        obtain ⟨sa2, sc2, hsv, _, _⟩ := own_form hso
        have hsn2 : ss[q].n = b.length + 4 := by have h1 := hso.1; rw [hbb, vals_length, sealed_length] at h1; omega
        refine ⟨by omega, by omega, by omega, by omega, da, _, dc, by rw [← hdv]; simpa using hcell5, sa2, _, sc2, by rw [← hsv]; simpa using hcell2, ?_⟩
        rw [← hdv, ← hsv]
        refine Calls.then (Same_ok (RB.of_own hown5 (hC4.2.1 _ (List.getElem_mem hk')).2 (by omega)) (RB.of_own hso (by rw [hbb]; exact bytesV_vals _) (by omega))) ?_
        rintro v w6 ⟨b6, rfl, hb6, hc6⟩
        refine ⟨b6, rfl, (b6, (q : Int) + 1), ⟨rfl, by rw [wrap1 _ (by omega) (by omega)], trivial⟩, ⟨q + 1, by dsimp only; omega, by omega, hc45.trans hc6, hnext b6 ?_⟩, by dsimp only; omega⟩
        rw [hb6, ht]
        simp [eq_comm]
      · rw [if_neg ht]
        exact ⟨(true, (q : Int) + 1), ⟨rfl, by rw [wrap1 _ (by omega) (by omega)], trivial⟩, ⟨q + 1, by dsimp only; omega, by omega, hc5.trans hcd, hnext true (by simp at ht; simp [ht])⟩, by dsimp only; omega⟩
    · rw [if_neg (by simpa using hql)]
      have hown5 := own_of_chg hown hc5 (fun _ _ x => x)
      refine ⟨by omega, by omega, da, _, dc, by rw [← hdv]; simpa using cell_keep hcell hc5, ?_⟩
      rw [hxs, hdv] at hown5
      refine Calls.then (Open_good (xs := xs) hxn.symm (by omega) (by omega) hdnc (own_reads_v hown5).1) ?_
      rintro v w6 ⟨a6, n6, c6, e, rfl, he, hc6⟩
      refine ⟨[_, _], rfl, _, _, rfl, a6, n6, c6, rfl, _, _, rfl, e, rfl, rfl, ?_⟩
      have hsame : (there = true) ↔ e = 0 := by
        rw [hth, he, ← hiff]
        constructor
        · rintro ⟨j, s, _, h2, h3⟩
          exact ⟨s, List.mem_of_getElem? h2, h3⟩
        · rintro ⟨s, hs, h3⟩
          obtain ⟨j, hj, rfl⟩ := List.getElem_of_mem hs
          exact ⟨j, _, by omega, List.getElem?_eq_getElem hj, h3⟩
      rw [if_neg (by
        by_cases h0 : e = 0
        · rw [hsame.2 h0, h0]; decide
        · have : there = false := by cases there with
            | false => rfl
            | true => exact absurd (hsame.1 rfl) h0
          rw [this]
          simp [h0])]
      exact ⟨(k : Int) + 1, ⟨by rw [wrap1 _ (by omega) (by omega)], trivial⟩, ⟨k + 1, by omega, by omega, (hc4.trans hc5).trans hc6⟩, by omega⟩
  · rw [if_neg (by simpa using hkl)]
    exact wk _ (hc03.trans hc4)
end Go.Proofs.Ytcfagkmkfjhhiaa.S
namespace Go.Proofs.Ytcfagkmkfjhhiaa.B
open Go Go.Proofs
open Go.Proofs.YtcfagkmkfjhhiaaEng
theorem AirSealed_walk (a0 : Option Addr) (len0 cap0 : Nat) (a1 : Option Addr) (len1 cap1 : Nat) (w : World) (i0 : Is 1048576 Try.prog w 12 28 [.slice a0 len0 cap0]) (i1 : Is 1048576 Try.prog w 12 22 [.slice a1 len1 cap1]) :
    Calls Try.prog 7 #[.slice a0 len0 cap0, .slice a1 len1 cap1] w (endW (fun v w' => v = .bool true ∧ Chg NoS w w') (fun _ _ => False)) := by
  obtain ⟨P, hp, _, _, hP⟩ := S.puts_in i0
  obtain ⟨L, hl, h1, h2, hL⟩ := acts_in i1
  exact S.AirSealed_ok hp hP hl hL (by omega)
end Go.Proofs.Ytcfagkmkfjhhiaa.B
