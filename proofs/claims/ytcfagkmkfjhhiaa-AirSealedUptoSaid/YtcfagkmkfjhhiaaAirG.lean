/-
  AirOnce: a datagram differs from what was put in by one byte at most: the walk.
-/
import Derived.Test.YtcfagkmkfjhhiaaAirF
set_option linter.unusedVariables false
set_option linter.unusedSimpArgs false
namespace Go.Proofs.Ytcfagkmkfjhhiaa.B
open Go Go.Proofs Go.Proofs.YtcfagkmkfjhhiaaEng

/-- What Do answers and does. -/
def Did (at_ what : Int) (ds cs : List Dg) (e : Int) (ds' cs' : List Dg) : Prop :=
  ((5 ≤ what ∨ at_ < 0) ∧ e = 2 ∧ ds' = ds ∧ cs' = cs) ∨ (what < 5 ∧ 0 ≤ at_ ∧ ds = [] ∧ e = 5 ∧ ds' = ds ∧ cs' = cs) ∨ (what < 5 ∧ 0 ≤ at_ ∧ 0 < ds.length ∧ e = 0 ∧ Deed at_ what ds cs ds' cs')
theorem St.did {w0 w : World} {p : Nat} {ds cs : List Dg} (h : St w0 w p ds cs) (what at_ : Int) (h0 : 0 ≤ what) (hl : ds.length ≤ 1099511627776) (hl2 : cs.length ≤ 1099511627776) (ha2 : at_ ≤ 9223372036854775807) (hbl : ∀ d ∈ ds, d.n ≤ 1099511627776) :
    Calls Try.prog 16 #[.pointer (some ⟨p, 0, none⟩), .int .u8 what, .int .i64 at_] w (endW (fun v w' => ∃ e, v = .int .i64 e ∧ ∃ ds' cs', Did at_ what ds cs e ds' cs' ∧ St w0 w' p ds' cs') (fun _ _ => False)) := by
  by_cases h1 : 5 ≤ what ∨ at_ < 0
  · refine Calls.then (Do_arg (ds := []) (cs := []) (base := 0) (fp := fun _ => False) what at_ h1) ?_
    rintro v w' ⟨rfl, rfl⟩
    exact ⟨2, rfl, ds, cs, .inl ⟨h1, rfl, rfl, rfl⟩, h⟩
  by_cases h2 : ds.length = 0
  · have h2 : ds = [] := List.length_eq_zero_iff.1 h2
    subst h2
    obtain ⟨fp, hA, hc⟩ := h
    refine Calls.then (Do_none hA what at_ (by omega) (by omega)) ?_
    rintro v w' ⟨rfl, rfl⟩
    exact ⟨5, rfl, [], cs, .inr (.inl ⟨by omega, by omega, rfl, rfl, rfl, rfl⟩), fp, hA, hc⟩
  · refine Calls.then (h.do what at_ h0 (by omega) (by omega) (by omega) hl hl2 ha2 hbl) ?_
    rintro v w' ⟨rfl, ds', cs', hd, h'⟩
    exact ⟨0, rfl, ds', cs', .inr (.inr ⟨by omega, by omega, by omega, rfl, hd⟩), h'⟩

theorem mem_of_erase {α : Type} {l : List α} {k : Nat} {d : α} (h : d ∈ l.eraseIdx k) : d ∈ l := List.mem_of_mem_eraseIdx h
theorem Deed.all {at_ what : Int} {ds cs ds' cs' : List Dg} {Q : Dg → Prop} (h : Deed at_ what ds cs ds' cs') (hq : ∀ d ∈ ds ++ cs, Q d) (hsame : ∀ x y : Dg, Q x → y.bs = x.bs → y.n = x.n → y.ch = x.ch → Q y)
    (hch : ∀ (x y : Dg) (j : Nat) (b : UInt8), Q x → x.ch = false → x.bs[j]? = some (.int .u8 b.toNat) → y.n = x.n → y.ch = true → y.bs = x.bs.set j (.int .u8 (b ^^^ 0x5a).toNat) → Q y) : ∀ d ∈ ds' ++ cs', Q d := by
  intro d hd
  cases h with
  | bring _ _ x hx =>
    rcases List.mem_append.1 hd with hd | hd
    · exact hq d (List.mem_append_left _ (mem_of_erase hd))
    · rcases List.mem_append.1 hd with hd | hd
      · exact hq d (List.mem_append_right _ hd)
      · rw [List.mem_singleton.1 hd]; exact hq _ (List.mem_append_left _ (List.mem_of_getElem? hx))
  | lose _ _ x hx =>
    rcases List.mem_append.1 hd with hd | hd
    · exact hq d (List.mem_append_left _ (mem_of_erase hd))
    · exact hq d (List.mem_append_right _ hd)
  | double _ _ x y hx hy =>
    rcases List.mem_append.1 hd with hd | hd
    · rcases List.mem_append.1 hd with hd | hd
      · exact hq d (List.mem_append_left _ hd)
      · rw [List.mem_singleton.1 hd]; exact hsame x y (hq _ (List.mem_append_left _ (List.mem_of_getElem? hx))) hy.1 hy.2.1 hy.2.2
    · exact hq d (List.mem_append_right _ hd)
  | same _ _ x hx hc => exact hq d hd
  | change _ _ x y b hx hc hb hy =>
    rcases List.mem_append.1 hd with hd | hd
    · rcases mem_set_of hd with hd | rfl
      · exact hq d (List.mem_append_left _ hd)
      · exact hch x _ _ b (hq _ (List.mem_append_left _ (List.mem_of_getElem? hx))) hc.1 hb hy.1 hy.2.1 hy.2.2
    · exact hq d (List.mem_append_right _ hd)
  | delay _ _ x hx =>
    rcases List.mem_append.1 hd with hd | hd
    · rcases List.mem_append.1 hd with hd | hd
      · exact hq d (List.mem_append_left _ (mem_of_erase hd))
      · rw [List.mem_singleton.1 hd]; exact hq _ (List.mem_append_left _ (List.mem_of_getElem? hx))
    · exact hq d (List.mem_append_right _ hd)
theorem Deed.len {at_ what : Int} {ds cs ds' cs' : List Dg} (h : Deed at_ what ds cs ds' cs') : ds'.length + cs'.length ≤ ds.length + cs.length + 1 := by
  cases h <;> simp [List.length_eraseIdx] <;> (try split) <;> omega
theorem Did.all {at_ what e : Int} {ds cs ds' cs' : List Dg} {Q : Dg → Prop} (h : Did at_ what ds cs e ds' cs') (hq : ∀ d ∈ ds ++ cs, Q d) (hsame : ∀ x y : Dg, Q x → y.bs = x.bs → y.n = x.n → y.ch = x.ch → Q y)
    (hch : ∀ (x y : Dg) (j : Nat) (b : UInt8), Q x → x.ch = false → x.bs[j]? = some (.int .u8 b.toNat) → y.n = x.n → y.ch = true → y.bs = x.bs.set j (.int .u8 (b ^^^ 0x5a).toNat) → Q y) : ∀ d ∈ ds' ++ cs', Q d := by
  rcases h with ⟨_, _, rfl, rfl⟩ | ⟨_, _, _, _, rfl, rfl⟩ | ⟨_, _, _, _, h⟩
  · exact hq
  · exact hq
  · exact h.all hq hsame hch
theorem Did.len {at_ what e : Int} {ds cs ds' cs' : List Dg} (h : Did at_ what ds cs e ds' cs') : ds'.length + cs'.length ≤ ds.length + cs.length + 1 := by
  rcases h with ⟨_, _, rfl, rfl⟩ | ⟨_, _, _, _, rfl, rfl⟩ | ⟨_, _, _, _, h⟩
  · omega
  · omega
  · exact h.len

/-- as it was put in, or one byte of it changed -/
def Once (n : Nat) (zs : List Value) (d : Dg) : Prop := d.n = n ∧ ((d.ch = false ∧ d.bs = zs) ∨ (d.ch = true ∧ ∃ j u, d.bs = zs.set j u))
theorem Once.did {at_ what e : Int} {ds cs ds' cs' : List Dg} {n : Nat} {zs : List Value} (h : Did at_ what ds cs e ds' cs') (hq : ∀ d ∈ ds ++ cs, Once n zs d) : ∀ d ∈ ds' ++ cs', Once n zs d :=
  h.all hq (fun x y hx h1 h2 h3 => by unfold Once at *; rw [h1, h2, h3]; exact hx)
    (fun x y j b hx hc hb h1 h2 h3 => ⟨by rw [h1]; exact hx.1, .inr ⟨h2, j, _, by
      rcases hx.2 with ⟨_, h⟩ | ⟨h, _⟩
      · rw [h3, h]
      · rw [hc] at h; cases h⟩⟩)
theorem wrap1 (i : Int) (h : -9223372036854775808 ≤ i) (h2 : i ≤ 9223372036854775806) : IntKind.wrap .i64 (i + 1) = i + 1 := IntWalk.i64_in _ (by omega)

theorem byte_cell {zs : List Int} {w : World} {a : Option Addr} {n c k : Nat} (h : BytesIn w a n c zs) (hk : k < n) : ∃ A z, a = some A ∧ w.cell? (addK A k) = some (.int .u8 z) ∧ (zs.map (Value.int .u8))[k]? = some (.int .u8 z) := by
  have hk' : k < zs.length := by rw [h.1]; exact hk
  obtain ⟨A, hA, hc⟩ := h.2.2.2.2.2 k (.int .u8 zs[k]) (by simp [hk'])
  exact ⟨A, zs[k], hA, hc, by simp [hk']⟩

theorem AirOnce_ok {w : World} {ba la : Option Addr} {bn bc len cap : Nat} {zs : List Int} {L : List A1} (hb : BytesIn w ba bn bc zs) (hl : L.length = len) (hL : Acts w la L) (hm : len ≤ 1048576) :
    Calls Try.prog 6 #[.slice ba bn bc, .slice la len cap] w (endW (fun v w' => v = .bool true ∧ Chg NoS w w') (fun _ _ => False)) := by
  refine F6_calls ba bn bc la len cap ?_
  unfold F6
  refine ⟨fun _ w' => w' = w ∧ len ≤ 300 ∧ bn ≤ 4096, ?_, ?_⟩
  rotate_left
  · refine Calls.then (Great_ok hl hL hm) ?_
    rintro v w' ⟨rfl, b, rfl, hg⟩
    refine ⟨b, rfl, ?_⟩
    split
    · rename_i hbf
      split
      · refine Calls.then (Wakes_ok w') ?_
        rintro v w2 ⟨rfl, hc⟩
        exact ⟨_, rfl, rfl, hc⟩
      · rename_i h
        exact ⟨(), trivial, rfl, (hg hbf).1, by simp at h; omega⟩
    · refine Calls.then (Wakes_ok w') ?_
      rintro v w2 ⟨rfl, hc⟩
      exact ⟨_, rfl, rfl, hc⟩
  rintro _ w' ⟨rfl, hlen, hbn⟩ junk
  have hb0 : bytesV (zs.map (Value.int .u8)) := hb.bytesV
  refine Calls.then (New_ok w' w'.heap.size (Nat.le_refl _)) ?_
  rintro v w1 ⟨rfl, hA, hc, _⟩
  have h1 : St w' w1 w'.heap.size [] [] := ⟨_, hA, hc⟩
  refine ⟨_, rfl, ?_⟩
  have hb1 := hb.keep hc
  refine Calls.then (h1.put (bs := zs.map (Value.int .u8)) (by rw [List.length_map]; exact hb.1) hb1.2.2.2.2.2 (fun e => by have := hb.2.2.2.1 e; have := hb.2.1; omega) hb0 (by omega) (by simp)) ?_
  rintro v w2 ⟨rfl, d, hdn, hdb, hdc, h2⟩
  have hd : Once bn (zs.map (Value.int .u8)) d := ⟨hdn, .inl ⟨hdc, hdb⟩⟩
  refine ⟨fun s w2 => ∃ ds cs, St w' w2 w'.heap.size ds cs ∧ (∀ d ∈ ds ++ cs, Once bn (zs.map (Value.int .u8)) d) ∧ 0 ≤ s ∧ s ≤ len ∧ ((ds.length + cs.length : Nat) : Int) ≤ s + 1, fun s _ => (len - s).toNat, ⟨0, ⟨rfl, trivial⟩, [d], [], h2, by intro x hx; simp at hx; rw [hx]; exact hd, by omega, by omega, by simp⟩, ?_⟩
  rintro i w3 ⟨ds, cs, h3, hq, hi0, hi1, hdl⟩ _
  by_cases hi : i < len
  · rw [if_pos (by simpa using hi)]
    obtain ⟨j, rfl⟩ := Int.eq_ofNat_of_zero_le hi0
    have hj : j < L.length := by omega
    obtain ⟨fp, hA3, hc3⟩ := id h3
    have hL3 := hL.keep hc3
    obtain ⟨A, rfl, hx0, hx1, hx2, hd0, hd1, ht0, ht1, _⟩ := hL3 j _ (List.getElem?_eq_getElem hj)
    have hw := wrap1 (j : Int) (by omega) (by omega)
    refine ⟨hi0, hi, _, hx0, ?_⟩
    split
    · refine ⟨hi0, hi, hi0, hi, _, cell_keep hx0 (chg_drew w3 NoS), _, cell_keep hx1 (chg_drew w3 NoS), ?_⟩
      refine Calls.then ((h3.other (chg_drew w3 NoS)).did _ _ hd0 (by omega) (by omega) ht1 (fun d hd => by rw [(hq d (List.mem_append_left _ hd)).1]; omega)) ?_
      rintro v w4 ⟨e, rfl, ds', cs', hdid, h4⟩
      refine ⟨e, rfl, (j : Int) + 1, ⟨by rw [hw], trivial⟩, ⟨ds', cs', h4, Once.did hdid hq, by omega, by omega, ?_⟩, by dsimp only; omega⟩
      have := hdid.len
      omega
    · exact ⟨(j : Int) + 1, ⟨by rw [hw], trivial⟩, ⟨ds, cs, h3, hq, by omega, by omega, by omega⟩, by dsimp only; omega⟩
  rw [if_neg (by simpa using hi)]
  obtain ⟨fp, hA3, hc3⟩ := h3
  refine Calls.then (Came_ok hA3) ?_
  rintro v w4 ⟨a, rfl, ⟨vc, c, hvc, hrow⟩, hrows, _, fp', hA4, hfp, _, _, hc4, _⟩
  have hc04 : Chg NoS w' w4 := by
    obtain ⟨_, _, hA3⟩ := hA3
    exact hc3.trans2 hc4 fun k hk hx => by have := hA3.fpb k hx; omega
  refine ⟨_, _, _, rfl, ?_⟩
  subst hvc
  refine ⟨fun s w5 => Chg NoS w4 w5 ∧ 0 ≤ s ∧ s ≤ cs.length, fun s _ => (cs.length - s).toNat, ⟨0, ⟨rfl, trivial⟩, Chg.refl _ _, by omega, by omega⟩, ?_⟩
  rintro i w5 ⟨hc5, hi0, hi1⟩ _
  by_cases hi : i < cs.length
  · rw [if_pos (by simpa using hi)]
    obtain ⟨j, rfl⟩ := Int.eq_ofNat_of_zero_le hi0
    have hj : j < cs.length := by omega
    have hw := wrap1 (j : Int) (by omega) (by omega)
    obtain ⟨A, rfl, hcj⟩ := own_cell hrow (j := j) (u := cs[j].v) (by simp [hj])
    have hmem : cs[j] ∈ cs := List.getElem_mem hj
    have hon := hq _ (List.mem_append_right ds hmem)
    obtain ⟨a2, c2, hv2, _, hf2⟩ := own_form (hrows _ hmem).1
    have hr2 := (hrows _ hmem).1
    rw [hv2] at hcj hr2
    have hcj5 := cell_keep hcj hc5
    refine ⟨hi0, hi, _, _, _, by simpa using hcj5, ?_⟩
    rw [if_neg (by simp [hon.1])]
    obtain ⟨far, hfar⟩ : ∃ far : Nat, ∀ k, k < bn → ∀ y, cs[j].bs[k]? = some y → k ≠ far → (zs.map (Value.int .u8))[k]? = some y := by
      rcases hon.2 with ⟨_, h⟩ | ⟨_, jj, u, h⟩
      · exact ⟨0, fun k _ y hy _ => by rw [h] at hy; exact hy⟩
      · exact ⟨jj, fun k _ y hy hne => by rw [h, List.getElem?_set_ne (fun e => hne e.symm)] at hy; exact hy⟩
    have hbsl : cs[j].bs.length = bn := by
      rcases hon.2 with ⟨_, h⟩ | ⟨_, jj, u, h⟩ <;> rw [h] <;> simp [hb.1]
    refine ⟨fun s w6 => Chg NoS w4 w6 ∧ 0 ≤ s.2 ∧ s.2 ≤ bn ∧ 0 ≤ s.1 ∧ s.1 ≤ 1 ∧ (s.2 ≤ far → s.1 = 0), fun s _ => (bn - s.2).toNat, ⟨(0, 0), ⟨rfl, rfl, trivial⟩, hc5, by simp, by simp, by simp, by simp, fun _ => rfl⟩, ?_⟩
    rintro ⟨n, i⟩ w6 ⟨hc6, hk0, hk1, hn0, hn1, hnf⟩ _
    simp only at hk0 hk1 hn0 hn1 hnf ⊢
    by_cases hk : i < bn
    · rw [if_pos (by simpa using hk)]
      obtain ⟨k, rfl⟩ := Int.eq_ofNat_of_zero_le hk0
      have hkb : k < bn := by omega
      have hb6 := hb.keep (hc04.trans (hc6.trans (chg_drew w6 NoS)))
      obtain ⟨Ab, z, rfl, hzc, hz⟩ := byte_cell hb6 hkb
      have hkl : k < cs[j].bs.length := by omega
      obtain ⟨y, hy⟩ : ∃ y, cs[j].bs[k]? = some y := ⟨_, List.getElem?_eq_getElem hkl⟩
      obtain ⟨yb, hyb⟩ := (hrows _ hmem).2 y (List.mem_of_getElem? hy)
      subst hyb
      obtain ⟨A2, rfl, hyc⟩ := own_cell hr2 hy
      have hcj6 := cell_keep hcj (hc6.trans (chg_drew w6 NoS))
      have hyc6 := cell_keep hyc (hc6.trans (chg_drew w6 NoS))
      have hon1 := hon.1
      have hw2 := wrap1 (k : Int) (by omega) (by omega)
      have hw1 := wrap1 n (by omega) (by omega)
      refine ⟨hi0, hi, hk0, hk, some A2, cs[j].n, c2, by simpa using hcj6, hk0, by omega, _, by simpa using hyc6, z, by simpa using hzc, ?_⟩
      split
      · rename_i hne
        have hkf : k = far := by
          rcases Nat.decEq k far with h | h
          · have := hfar k hkb _ hy h
            rw [hz] at this
            injection this with this
            injection this with _ this
            subst this
            simp at hne
          · exact h
        refine ⟨(n + 1, (k : Int) + 1), ⟨by rw [hw1], by rw [hw2], trivial⟩, ⟨hc6.trans (chg_drew w6 NoS), by simp only; omega, by simp only; omega, by simp only; omega, ?_, ?_⟩, by dsimp only; omega⟩
        · have := hnf (by omega)
          simp only; omega
        · simp only; omega
      · refine ⟨(n, (k : Int) + 1), ⟨rfl, by rw [hw2], trivial⟩, ⟨hc6.trans (chg_drew w6 NoS), by simp only; omega, by simp only; omega, hn0, hn1, ?_⟩, by dsimp only; omega⟩
        simp only
        intro h
        exact hnf (by omega)
    · rw [if_neg (by simpa using hk)]
      rw [if_neg (by simp; omega)]
      exact ⟨(j : Int) + 1, ⟨by rw [hw], trivial⟩, ⟨hc6, by omega, by omega⟩, by omega⟩
  · rw [if_neg (by simpa using hi)]
    refine Calls.then (Wakes_ok w5) ?_
    rintro v w6 ⟨rfl, hc⟩
    exact ⟨_, rfl, rfl, (hc04.trans hc5).trans hc⟩

theorem AirOnce_walk (a0 : Option Addr) (len0 cap0 : Nat) (a1 : Option Addr) (len1 cap1 : Nat) (w : World) (i0 : Is 1048576 Try.prog w 12 31 [.slice a0 len0 cap0]) (i1 : Is 1048576 Try.prog w 12 22 [.slice a1 len1 cap1]) :
    Calls Try.prog 6 #[.slice a0 len0 cap0, .slice a1 len1 cap1] w (endW (fun v w' => v = .bool true ∧ Chg NoS w w') (fun _ _ => False)) := by
  obtain ⟨zs, hb⟩ := bytes_in i0
  obtain ⟨L, hl, h1, h2, hL⟩ := acts_in i1
  exact AirOnce_ok hb hl hL (by omega)
end Go.Proofs.Ytcfagkmkfjhhiaa.B
