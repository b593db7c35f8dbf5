/-
  The acts that came in; whether they are many.
-/
import Derived.Test.YtcfagkmkfjhhiaaAirE
import Derived.Test.YtcfagkmkfjhhiaaEngO
import Derived.Test.YtcfagkmkfjhhiaaBB
set_option linter.unusedVariables false
set_option linter.unusedSimpArgs false
namespace Go.Proofs.Ytcfagkmkfjhhiaa.B
open Go Go.Proofs Go.Proofs.YtcfagkmkfjhhiaaEng

theorem build_list {α : Type} {p : Nat → α → Prop} : ∀ (n : Nat), (∀ i, i < n → ∃ x, p i x) → ∃ L : List α, L.length = n ∧ ∀ i x, L[i]? = some x → p i x
  | 0, _ => ⟨[], rfl, fun i x h => by simp at h⟩
  | n + 1, h => by
    obtain ⟨L, hl, hL⟩ := build_list n (fun i hi => h i (by omega))
    obtain ⟨x, hx⟩ := h n (by omega)
    refine ⟨L ++ [x], by simp [hl], fun i y hy => ?_⟩
    by_cases hi : i < n
    · rw [List.getElem?_append_left (by omega)] at hy
      exact hL i y hy
    · have hin : i = n := by
        have := (List.getElem?_eq_some_iff.1 hy).1
        simp at this
        omega
      subst hin
      rw [List.getElem?_append_right (by omega)] at hy
      simp [hl] at hy
      subst hy
      exact hx

/-- A row of bytes that came in. -/
def BytesIn (w : World) (a : Option Addr) (n c : Nat) (zs : List Int) : Prop := zs.length = n ∧ n ≤ c ∧ c ≤ 1048576 ∧ (a = none → c = 0) ∧ (∀ z ∈ zs, 0 ≤ z ∧ z ≤ 255) ∧ Reads w a (zs.map (.int .u8))
theorem BytesIn.keep {w w' : World} {a : Option Addr} {n c : Nat} {zs : List Int} (h : BytesIn w a n c zs) (hc : Chg NoS w w') : BytesIn w' a n c zs :=
  ⟨h.1, h.2.1, h.2.2.1, h.2.2.2.1, h.2.2.2.2.1, h.2.2.2.2.2.chg hc (fun _ _ x => x)⟩
theorem BytesIn.bytesV {w : World} {a : Option Addr} {n c : Nat} {zs : List Int} (h : BytesIn w a n c zs) : bytesV (zs.map (.int .u8)) := by
  intro u hu
  obtain ⟨z, hz, rfl⟩ := List.mem_map.1 hu
  have := h.2.2.2.2.1 z hz
  refine ⟨UInt8.ofNat z.toNat, ?_⟩
  congr 1
  rw [UInt8.toNat_ofNat']
  have : z.toNat < 256 := by omega
  rw [Nat.mod_eq_of_lt this]
  omega
theorem wf_u8 {z : Int} (h : (Lit.int .u8 z).wf = true) : 0 ≤ z ∧ z ≤ 255 := by simpa [Lit.wf, IntKind.min, IntKind.max, IntKind.signed, IntKind.bits] using h
theorem wf_i64 {z : Int} (h : (Lit.int .i64 z).wf = true) : -9223372036854775808 ≤ z ∧ z ≤ 9223372036854775807 := by simpa [Lit.wf, IntKind.min, IntKind.max, IntKind.signed, IntKind.bits] using h
theorem cells5 : Try.prog.cellsOf 5 = 1 := by kernel_rfl
theorem cells3' : Try.prog.cellsOf 3 = 1 := by kernel_rfl
theorem cells31' : Try.prog.cellsOf 31 = 1 := by kernel_rfl
theorem cells33' : Try.prog.cellsOf 33 = 3 := by kernel_rfl
theorem bytes_in {w : World} {m : Nat} {a : Option Addr} {n c : Nat} (h : Is 1048576 Try.prog w (m + 2) 31 [.slice a n c]) : ∃ zs, BytesIn w a n c zs := by
  obtain ⟨a', n', c', e, h1, h2, h3, zs, h4, h5, h6⟩ := h.ints Try.underlying31 Try.underlying5 cells5
  injection e with e _
  injection e with e1 e2 e3
  subst e1
  subst e2
  subst e3
  exact ⟨zs, h4, h1, h2, h3, fun z hz => wf_u8 (h5 z hz), h6⟩

structure A1 where
  d : Int
  at_ : Int
  a : Option Addr
  n : Nat
  c : Nat
  zs : List Int
/-- The acts that came in. -/
def Act1 (w : World) (A : Addr) (j : Nat) (x : A1) : Prop :=
  w.cell? (addK (addK A (j * 3)) 0) = some (.int .u8 x.d) ∧ w.cell? (addK (addK A (j * 3)) 1) = some (.int .i64 x.at_) ∧ w.cell? (addK (addK A (j * 3)) 2) = some (.slice x.a x.n x.c) ∧
    0 ≤ x.d ∧ x.d ≤ 255 ∧ -9223372036854775808 ≤ x.at_ ∧ x.at_ ≤ 9223372036854775807 ∧ BytesIn w x.a x.n x.c x.zs
def Acts (w : World) (la : Option Addr) (L : List A1) : Prop := ∀ j x, L[j]? = some x → ∃ A, la = some A ∧ Act1 w A j x

theorem cell_keep {w w' : World} {A : Addr} {v : Value} (h : w.cell? A = some v) (hc : Chg NoS w w') : w'.cell? A = some v := by
  have hlt : A.block < w.heap.size := by
    rcases Nat.lt_or_ge A.block w.heap.size with h' | h'
    · exact h'
    · simp [World.cell?, Array.getElem?_eq_none h'] at h
  rw [← h]
  unfold World.cell?
  rw [hc.block _ hlt (fun x => x)]
theorem Acts.keep {w w' : World} {la : Option Addr} {L : List A1} (h : Acts w la L) (hc : Chg NoS w w') : Acts w' la L := fun j x hx => by
  obtain ⟨A, hA, h1, h2, h3, h4, h5, h6, h7, h8⟩ := h j x hx
  exact ⟨A, hA, cell_keep h1 hc, cell_keep h2 hc, cell_keep h3 hc, h4, h5, h6, h7, h8.keep hc⟩

theorem acts_in {w : World} {m : Nat} {la : Option Addr} {len cap : Nat} (h : Is 1048576 Try.prog w (m + 4) 22 [.slice la len cap]) : ∃ L, L.length = len ∧ len ≤ cap ∧ cap ≤ 1048576 ∧ Acts w la L := by
  obtain ⟨a', n', c', e, h1, h2, h3, h4⟩ := h.slice Try.underlying22
  injection e with e _
  injection e with e1 e2 e3
  subst e1
  subst e2
  subst e3
  obtain ⟨L, hl, hL⟩ := build_list (p := fun j x => ∃ A, la = some A ∧ Act1 w A j x) len (by
    intro i hi
    cases la with
    | none => have := h3 rfl; omega
    | some A =>
      obtain ⟨es, he, hes⟩ := h4 A rfl i (by omega)
      obtain ⟨hel, hf⟩ := hes.struct Try.underlying33
      rw [cells33'] at he hel
      obtain ⟨_, _, hc⟩ := World.cells?_some he
      match es, hel with
      | [v0, v1, v2], _ =>
        have f0 : Is 1048576 Try.prog w (m + 2) 5 [v0] := hes.field (i := 0) Try.underlying33 rfl rfl rfl cells5
        have f1 : Is 1048576 Try.prog w (m + 2) 3 [v1] := hes.field (i := 1) Try.underlying33 rfl rfl rfl cells3'
        have f2 : Is 1048576 Try.prog w (m + 2) 31 [v2] := hes.field (i := 2) Try.underlying33 rfl rfl rfl cells31'
        obtain ⟨d, e0, hd⟩ := f0.int Try.underlying5
        obtain ⟨t, e1, ht⟩ := f1.int Try.underlying3
        obtain ⟨a2, n2, c2, e2, _⟩ := f2.slice Try.underlying31
        injection e0 with e0 _
        injection e1 with e1 _
        injection e2 with e2 _
        subst e0
        subst e1
        subst e2
        obtain ⟨zs, hz⟩ := bytes_in f2
        have hd' := wf_u8 hd
        have ht' := wf_i64 ht
        exact ⟨⟨d, t, a2, n2, c2, zs⟩, A, rfl, hc 0 (by omega), hc 1 (by omega), hc 2 (by omega), hd'.1, hd'.2, ht'.1, ht'.2, hz⟩)
  exact ⟨L, hl, h1, h2, hL⟩

theorem Great_ok {w : World} {la : Option Addr} {len cap : Nat} {L : List A1} (hl : L.length = len) (hL : Acts w la L) (hm : len ≤ 1048576) :
    Calls Try.prog 8 #[.slice la len cap] w (endW (fun v w' => w' = w ∧ ∃ b, v = .bool b ∧ (b = false → len ≤ 300 ∧ ∀ x ∈ L, x.n ≤ 65536)) (fun _ _ => False)) := by
  refine F8_calls la len cap ?_
  unfold F8
  refine ⟨fun s w' => w' = w ∧ 0 ≤ s.2 ∧ s.2 ≤ 301 ∧ s.2 ≤ len ∧ 0 ≤ s.1 ∧ s.1 ≤ s.2 * 140737488355328 ∧ ∀ (j : Nat) (x : A1), L[j]? = some x → (j : Int) < s.2 → (x.n : Int) ≤ s.1, fun s _ => (301 - s.2).toNat, ⟨(0, 0), ⟨rfl, rfl, trivial⟩, rfl, by simp, by simp, by simp, by simp, by simp, fun j x _ h => by simp at h; omega⟩, ?_⟩
  rintro ⟨n, i⟩ w' ⟨rfl, h0, h1, h2, h3, h4, h5⟩ _
  simp only at h0 h1 h2 h3 h4 h5 ⊢
  have hend : i = len ∨ 300 < i → if decide ((len : Int) > 300) = false then True ∧ ∃ b, Value.bool (decide (n > 65536)) = .bool b ∧ (b = false → len ≤ 300 ∧ ∀ x ∈ L, x.n ≤ 65536) else True ∧ ∃ b, Value.bool true = .bool b ∧ (b = false → len ≤ 300 ∧ ∀ x ∈ L, x.n ≤ 65536) := by
    intro hi
    split
    · rename_i hlen
      have hlen : (len : Int) ≤ 300 := by simpa using hlen
      refine ⟨trivial, _, rfl, fun hb => ⟨by omega, fun x hx => ?_⟩⟩
      have hb : n ≤ 65536 := by simpa using hb
      obtain ⟨j, hj, rfl⟩ := List.getElem_of_mem hx
      have := h5 j _ (List.getElem?_eq_getElem hj) (by omega)
      omega
    · exact ⟨trivial, _, rfl, fun hb => by cases hb⟩
  by_cases hi : i < len
  · rw [if_pos (by simpa using hi)]
    by_cases hi2 : i ≤ 300
    · rw [if_pos (by simpa using hi2)]
      obtain ⟨j, rfl⟩ := Int.eq_ofNat_of_zero_le h0
      have hj : j < L.length := by omega
      obtain ⟨A, rfl, _, _, hc, _, _, _, _, hb⟩ := hL j _ (List.getElem?_eq_getElem hj)
      have hn := hb.2.1
      have hn2 := hb.2.2.1
      have e1 : IntKind.wrap .i64 (n + (L[j].n : Int)) = n + L[j].n := IntWalk.i64_in _ (by omega)
      have e2 : IntKind.wrap .i64 ((j : Int) + 1) = (j + 1 : Nat) := by rw [IntWalk.i64_in _ (by omega)]; omega
      refine ⟨h0, hi, _, _, _, hc, (n + L[j].n, ((j + 1 : Nat) : Int)), ⟨by rw [e1], by rw [e2], trivial⟩, ?_, ?_⟩
      · simp only
        refine ⟨trivial, by omega, by omega, by omega, by omega, by omega, fun k x hx hk => ?_⟩
        by_cases hkj : k = j
        · subst hkj
          rw [List.getElem?_eq_getElem hj] at hx
          injection hx with hx
          subst hx
          omega
        · have := h5 k x hx (by omega)
          omega
      · simp only
        omega
    · rw [if_neg (by simpa using hi2)]
      exact hend (.inr (by omega))
  · rw [if_neg (by simpa using hi)]
    exact hend (.inl (by omega))
end Go.Proofs.Ytcfagkmkfjhhiaa.B
