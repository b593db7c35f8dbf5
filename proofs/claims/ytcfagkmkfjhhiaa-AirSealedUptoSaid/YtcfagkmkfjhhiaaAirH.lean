/-
  AirCounts: without doubling no more comes than was put in: the walk.
-/
import Derived.Test.YtcfagkmkfjhhiaaAirG
import Derived.Test.YtcfagkmkfjhhiaaBC
set_option linter.unusedVariables false
set_option linter.unusedSimpArgs false
namespace Go.Proofs.Ytcfagkmkfjhhiaa.B
open Go Go.Proofs Go.Proofs.YtcfagkmkfjhhiaaEng

theorem Deed.lens {at_ what : Int} {ds cs ds' cs' : List Dg} (h : Deed at_ what ds cs ds' cs') :
    (what = 0 ∧ ds'.length + 1 = ds.length ∧ cs'.length = cs.length + 1) ∨ (what = 1 ∧ ds'.length + 1 = ds.length ∧ cs'.length = cs.length) ∨ (what = 2 ∧ ds'.length = ds.length + 1 ∧ cs'.length = cs.length) ∨ ((what = 3 ∨ what = 4) ∧ ds'.length = ds.length ∧ cs'.length = cs.length) := by
  cases h with
  | bring _ _ x hx => have := (List.getElem?_eq_some_iff.1 hx).1; exact .inl ⟨rfl, by rw [List.length_eraseIdx, if_pos this]; omega, by simp⟩
  | lose _ _ x hx => have := (List.getElem?_eq_some_iff.1 hx).1; exact .inr (.inl ⟨rfl, by rw [List.length_eraseIdx, if_pos this]; omega, rfl⟩)
  | double _ _ x y hx hy => exact .inr (.inr (.inl ⟨rfl, by simp, rfl⟩))
  | same _ _ x hx hc => exact .inr (.inr (.inr ⟨.inl rfl, rfl, rfl⟩))
  | change _ _ x y b hx hc hb hy => exact .inr (.inr (.inr ⟨.inl rfl, by simp, rfl⟩))
  | delay _ _ x hx => have := (List.getElem?_eq_some_iff.1 hx).1; exact .inr (.inr (.inr ⟨.inr rfl, by rw [List.length_append, List.length_eraseIdx, if_pos this]; simp; omega, rfl⟩))

def Short (d : Dg) : Prop := d.n ≤ 65536
theorem Short.did {at_ what e : Int} {ds cs ds' cs' : List Dg} (h : Did at_ what ds cs e ds' cs') (hq : ∀ d ∈ ds ++ cs, Short d) : ∀ d ∈ ds' ++ cs', Short d :=
  h.all hq (fun x y hx _ h2 _ => by unfold Short at *; omega) (fun x y j b hx _ _ h1 _ _ => by unfold Short at *; omega)
def CInv (w0 : World) (p len : Nat) (left came i : Int) (w : World) : Prop :=
  ∃ ds cs, St w0 w p ds cs ∧ left = ds.length ∧ came = cs.length ∧ 0 ≤ i ∧ i ≤ len ∧ ((ds.length + cs.length : Nat) : Int) ≤ i ∧ ∀ d ∈ ds ++ cs, Short d
theorem wrapm (i : Int) (h : -9223372036854775807 ≤ i) (h2 : i ≤ 9223372036854775807) : IntKind.wrap .i64 (i - 1) = i - 1 := IntWalk.i64_in _ (by omega)

theorem AirCounts_ok {w : World} {la : Option Addr} {len cap : Nat} {L : List A1} (hl : L.length = len) (hL : Acts w la L) (hm : len ≤ 1048576) :
    Calls Try.prog 5 #[.slice la len cap] w (endW (fun v w' => v = .bool true ∧ Chg NoS w w') (fun _ _ => False)) := by
  refine F5_calls la len cap ?_
  delta F5
  refine Calls.then (Great_ok hl hL hm) ?_
  rintro v w' ⟨rfl, b, rfl, hg⟩
  refine ⟨b, rfl, ?_⟩
  by_cases hbf : b = true
  · rw [if_pos hbf]
    refine Calls.then (Wakes_ok w') ?_
    rintro v w2 ⟨rfl, hc⟩
    exact ⟨_, rfl, rfl, hc⟩
  rw [if_neg hbf]
  obtain ⟨hlen, hsmall⟩ := hg (by simpa using hbf)
  refine Calls.then (New_ok w' w'.heap.size (Nat.le_refl _)) ?_
  rintro v w1 ⟨rfl, hA, hc, _⟩
  have h1 : St w' w1 w'.heap.size [] [] := ⟨_, hA, hc⟩
  refine ⟨_, rfl, ?_⟩
  refine ⟨fun s w2 => CInv w' w'.heap.size len s.1 s.2.1 s.2.2 w2, fun s _ => (len - s.2.2).toNat, ⟨(0, 0, 0), ⟨rfl, rfl, rfl, trivial⟩, [], [], h1, by simp, by simp, by simp, by simp, by simp, by simp⟩, ?_⟩
  rintro ⟨left, came, i⟩ w3 ⟨ds, cs, h3, hleft, hcame, hi0, hi1, hdl, hq⟩ _
  simp only at hleft hcame hi0 hi1 hdl ⊢
  by_cases hi : i < len
  · rw [if_pos (by simpa using hi)]
    obtain ⟨j, rfl⟩ := Int.eq_ofNat_of_zero_le hi0
    have hj : j < L.length := by omega
    obtain ⟨fp, hA3, hc3⟩ := id h3
    have hL3 := hL.keep hc3
    obtain ⟨A, rfl, hx0, hx1, hx2, hd0, hd1, ht0, ht1, hbx⟩ := hL3 j _ (List.getElem?_eq_getElem hj)
    have hw := wrap1 (j : Int) (by omega) (by omega)
    have hwl := wrap1 left (by omega) (by omega)
    have hwc := wrap1 came (by omega) (by omega)
    have hwm := wrapm left (by omega) (by omega)
    refine ⟨hi0, hi, _, hx0, ?_⟩
    by_cases hx10 : L[j].d = 10
    · rw [if_pos (by simpa using hx10)]
      refine ⟨hi0, hi, _, _, _, hx2, ?_⟩
      have hsm := hsmall L[j] (List.getElem_mem hj)
      refine Calls.then (h3.put (bs := L[j].zs.map (Value.int .u8)) (by rw [List.length_map]; exact hbx.1) hbx.2.2.2.2.2 (fun e => by have := hbx.2.2.2.1 e; have := hbx.2.1; omega) hbx.bytesV (by omega) (by omega)) ?_
      rintro v w4 ⟨rfl, d, hdn, hdb, hdc, h4⟩
      refine ⟨(left + 1, came, (j : Int) + 1), ⟨by rw [hwl], rfl, by rw [hw], trivial⟩, ⟨ds ++ [d], cs, h4, by simp; omega, by simpa using hcame, by simp only; omega, by simp only; omega, by simp; omega, ?_⟩, by dsimp only; omega⟩
      intro x hx
      rcases List.mem_append.1 hx with hx | hx
      · rcases List.mem_append.1 hx with hx | hx
        · exact hq x (List.mem_append_left _ hx)
        · rw [List.mem_singleton.1 hx]; unfold Short; omega
      · exact hq x (List.mem_append_right _ hx)
    rw [if_neg (by simpa using hx10)]
    refine ⟨hi0, hi, hi0, hi, _, cell_keep hx0 (chg_drew w3 NoS), _, cell_keep hx1 (chg_drew w3 NoS), ?_⟩
    refine Calls.then ((h3.other (chg_drew w3 NoS)).did _ _ hd0 (by omega) (by omega) ht1 (fun d hd => by have := hq d (List.mem_append_left _ hd); unfold Short at this; omega)) ?_
    rintro v w4 ⟨e, rfl, ds', cs', hdid, h4⟩
    obtain ⟨fp4, hA4, hc4⟩ := id h4
    have hL4 := hL.keep hc4
    obtain ⟨A', eA, hy0, hy1, hy2, _⟩ := hL4 j _ (List.getElem?_eq_getElem hj)
    cases eA
    have hq4 := Short.did hdid hq
    have hlen4 := hdid.len
    refine ⟨e, rfl, fun b w5 => w5 = w4 ∧ b = decide (4 < L[j].d ∨ L[j].at_ < 0), ?_, ?_⟩
    · rintro b0 w5 ⟨e5, rfl⟩ _
      subst e5
      refine ⟨fun b w6 => w6 = w5 ∧ b = false, ?_, ?_⟩
      · rintro b1 w6 ⟨e6, rfl⟩ _
        subst e6
        rw [if_neg (by simp)]
        have same : ds'.length = ds.length → cs'.length = cs.length → CInv w' w'.heap.size len left came ((j : Int) + 1) w6 := fun h1 h2 => ⟨ds', cs', h4, by omega, by omega, by omega, by omega, by omega, hq4⟩
        by_cases he : e = 0
        · rw [if_neg (by simp [he])]
          have hd : Deed L[j].at_ L[j].d ds cs ds' cs' := by
            rcases hdid with ⟨_, h, _⟩ | ⟨_, _, _, h, _⟩ | ⟨_, _, _, _, h⟩
            · omega
            · omega
            · exact h
          have hls := hd.lens
          refine ⟨hi0, hi, _, hy0, ?_⟩
          by_cases e0 : L[j].d = 0
          · rw [if_pos (by simp [e0])]
            exact ⟨(left - 1, came + 1, (j : Int) + 1), ⟨by rw [hwm], by rw [hwc], by rw [hw], trivial⟩, ⟨ds', cs', h4, by simp only; omega, by simp only; omega, by simp only; omega, by simp only; omega, by simp only; omega, hq4⟩, by dsimp only; omega⟩
          rw [if_neg (by simp [e0])]
          refine ⟨hi0, hi, _, hy0, ?_⟩
          by_cases e1 : L[j].d = 1
          · rw [if_pos (by simp [e1])]
            exact ⟨(left - 1, came, (j : Int) + 1), ⟨by rw [hwm], rfl, by rw [hw], trivial⟩, ⟨ds', cs', h4, by simp only; omega, by simp only; omega, by simp only; omega, by simp only; omega, by simp only; omega, hq4⟩, by dsimp only; omega⟩
          rw [if_neg (by simp [e1])]
          refine ⟨hi0, hi, _, hy0, ?_⟩
          by_cases e2 : L[j].d = 2
          · rw [if_pos (by simp [e2])]
            exact ⟨(left + 1, came, (j : Int) + 1), ⟨by rw [hwl], rfl, by rw [hw], trivial⟩, ⟨ds', cs', h4, by simp only; omega, by simp only; omega, by simp only; omega, by simp only; omega, by simp only; omega, hq4⟩, by dsimp only; omega⟩
          rw [if_neg (by simp [e2])]
          exact ⟨(left, came, (j : Int) + 1), ⟨rfl, rfl, by rw [hw], trivial⟩, same (by omega) (by omega), by dsimp only; omega⟩
        · rw [if_pos (by simpa using he)]
          have hse : ds' = ds ∧ cs' = cs := by
            rcases hdid with ⟨_, _, h1, h2⟩ | ⟨_, _, _, _, h1, h2⟩ | ⟨_, _, _, h, _⟩
            · exact ⟨h1, h2⟩
            · exact ⟨h1, h2⟩
            · omega
          exact ⟨(left, came, (j : Int) + 1), ⟨rfl, rfl, by rw [hw], trivial⟩, same (by rw [hse.1]) (by rw [hse.2]), by dsimp only; omega⟩
      · rcases hdid with ⟨hwr, rfl, _⟩ | ⟨hw1, hw2, rfl, rfl, _⟩ | ⟨hw1, hw2, hw3, rfl, _⟩
        · have e1 : decide (4 < L[j].d ∨ L[j].at_ < 0) = true := by simp; omega
          rw [e1]
          simp
        · have e1 : decide (4 < L[j].d ∨ L[j].at_ < 0) = false := by simp; omega
          have e2 : left = 0 := by simpa using hleft
          rw [e1, e2]
          simp
        · have e1 : decide (4 < L[j].d ∨ L[j].at_ < 0) = false := by simp; omega
          have e2 : ¬ left = 0 := by omega
          have e3 : left > 0 := by omega
          rw [e1]
          simp [e2, e3]
    · refine ⟨hi0, hi, _, hy0, ?_⟩
      split
      · rename_i h
        refine ⟨hi0, hi, _, hy1, _, ⟨rfl, trivial⟩, rfl, ?_⟩
        have : ¬ (4 < L[j].d) := by simpa using h
        simp [this]
      · rename_i h
        refine ⟨_, ⟨rfl, trivial⟩, rfl, ?_⟩
        have : 4 < L[j].d := by simpa using h
        simp [this]
  rw [if_neg (by simpa using hi)]
  refine ⟨fun s w2 => ∃ ds cs, St w' w2 w'.heap.size ds cs ∧ s.1 = ds.length ∧ s.2 = cs.length ∧ ds.length + cs.length ≤ 300 ∧ ∀ d ∈ ds ++ cs, Short d, fun s _ => s.1.toNat, ⟨(left, came), ⟨rfl, rfl, trivial⟩, ds, cs, h3, hleft, hcame, by omega, hq⟩, ?_⟩
  rintro ⟨left, came⟩ w4 ⟨ds, cs, h4, hleft, hcame, hn, hq⟩ _
  simp only at hleft hcame ⊢
  by_cases hp : left > 0
  · rw [if_pos (by simpa using hp)]
    refine Calls.then (h4.do 0 left (by omega) (by omega) (by omega) (by omega) (by omega) (by omega) (by omega) (fun d hd => by have := hq d (List.mem_append_left _ hd); unfold Short at this; omega)) ?_
    rintro v w5 ⟨rfl, ds', cs', hd, h5⟩
    have hwl := wrapm left (by omega) (by omega)
    have hwc := wrap1 came (by omega) (by omega)
    refine ⟨_, rfl, ?_⟩
    rw [if_neg (by simp)]
    have hq' : ∀ d ∈ ds' ++ cs', Short d := Short.did (e := 0) (.inr (.inr ⟨by omega, by omega, by omega, rfl, hd⟩)) hq
    rcases hd.lens with ⟨_, ha, hb⟩ | ⟨h, _⟩ | ⟨h, _⟩ | ⟨h, _⟩
    · exact ⟨(left - 1, came + 1), ⟨by rw [hwl], by rw [hwc], trivial⟩, ⟨ds', cs', h5, by simp only; omega, by simp only; omega, by omega, hq'⟩, by dsimp only; omega⟩
    · omega
    · omega
    · omega
  rw [if_neg (by simpa using hp)]
  have : ds = [] := List.length_eq_zero_iff.1 (by omega)
  subst this
  obtain ⟨fp, hA4, hc4⟩ := h4
  refine Calls.then (Do_none hA4 0 0 (by omega) (by omega)) ?_
  rintro v w5 ⟨rfl, rfl⟩
  refine ⟨_, rfl, ?_⟩
  rw [if_pos (by simp)]
  refine Calls.then (Came_ok hA4) ?_
  rintro v w6 ⟨a, rfl, _, _, _, fp', _, _, _, _, hc6, _⟩
  refine ⟨_, _, _, rfl, ?_⟩
  rw [if_pos (by simp [hcame])]
  refine Calls.then (Wakes_ok w6) ?_
  rintro v w7 ⟨rfl, hc7⟩
  refine ⟨_, rfl, rfl, ?_⟩
  obtain ⟨_, _, hA4⟩ := hA4
  exact (hc4.trans2 hc6 fun k hk hx => by have := hA4.fpb k hx; omega).trans hc7

theorem AirCounts_walk (a0 : Option Addr) (len0 cap0 : Nat) (w : World) (i0 : Is 1048576 Try.prog w 12 22 [.slice a0 len0 cap0]) :
    Calls Try.prog 5 #[.slice a0 len0 cap0] w (endW (fun v w' => v = .bool true ∧ Chg NoS w w') (fun _ _ => False)) := by
  obtain ⟨L, hl, h1, h2, hL⟩ := acts_in i0
  exact AirCounts_ok hl hL (by omega)
end Go.Proofs.Ytcfagkmkfjhhiaa.B
