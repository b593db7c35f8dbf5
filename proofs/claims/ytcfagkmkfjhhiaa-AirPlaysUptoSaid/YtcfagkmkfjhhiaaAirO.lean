/-
  AirPlays: the walk.
-/
import Derived.Test.YtcfagkmkfjhhiaaAirN
set_option linter.unusedVariables false
set_option linter.unusedSimpArgs false
namespace Go.Proofs.Ytcfagkmkfjhhiaa.B
open Go Go.Proofs Go.Proofs.YtcfagkmkfjhhiaaEng

theorem wrap_byte (n : Int) : ∃ y : UInt8, IntKind.wrap .u8 n = (y.toNat : Int) := by
  refine ⟨UInt8.ofNat (n % 256).toNat, ?_⟩
  rw [IntKind.wrap_u8, UInt8.toNat_ofNat']
  have : 0 ≤ n % 256 := Int.emod_nonneg _ (by omega)
  have : n % 256 < 256 := Int.emod_lt_of_pos _ (by omega)
  rw [Nat.mod_eq_of_lt (by omega)]
  omega
theorem bytesV_set {bs : List Value} (h : bytesV bs) (j : Nat) {u : Value} (hu : ∃ y : UInt8, u = .int .u8 y.toNat) : bytesV (bs.set j u) := fun v hv => by
  rcases mem_set_of hv with h1 | rfl
  · exact h v h1
  · exact hu

/-- a byte of what came is written -/
theorem Came.write {w : World} {base g cd k j : Nat} {a : Option Addr} {cs : List Dg} {d : Dg} {u : Value} {K : World → Prop} (h : Came w base a cs) (hk : cs[k]? = some d) (hv : d.v = .slice (some ⟨g, 0, none⟩) d.n cd) (hj : j < d.n) (hu : ∃ y : UInt8, u = .int .u8 y.toNat)
    (hK : ∀ w', Came w' base a (cs.set k ⟨d.v, d.n, d.bs.set j u, d.ch⟩) → Chg (OnlyB g) w w' → K w') : setW w ⟨g, j, none⟩ u K := by
  obtain ⟨⟨c, h1⟩, h2, h3⟩ := h
  have hm := List.mem_of_getElem? hk
  have hr := h2 d hm
  have hr1 := hr.1
  rw [hv] at hr1
  refine setW_own hr1 (by omega) (by obtain ⟨y, rfl⟩ := hu; rfl) ?_
  intro w' ho hc hs
  refine hK w' ⟨⟨c, ?_⟩, fun x hx => ?_, ?_⟩ hc
  · rw [List.length_set, show (cs.set k ⟨d.v, d.n, d.bs.set j u, d.ch⟩).map Dg.v = cs.map Dg.v from ?_]
    · exact own_of_chg h1 hc (fun q hq hx => by
        obtain ⟨c', hcc⟩ := own_typed' hr1 (k := g) rfl
        exact own_ne' h1 hcc (by decide) (by rw [hq, show q = g from hx]))
    · rw [List.map_set]
      apply List.ext_getElem?
      intro i
      by_cases hi : i = k
      · subst hi
        rw [List.getElem?_set_self (by simpa using (List.getElem?_eq_some_iff.1 hk).1)]
        simp [hk]
      · rw [List.getElem?_set_ne (fun e => hi e.symm)]
  · have hperm : cs.Perm (d :: cs.eraseIdx k) := perm_erase hk
    have hlt := (List.getElem?_eq_some_iff.1 hk).1
    have hperm2 : (cs.set k ⟨d.v, d.n, d.bs.set j u, d.ch⟩).Perm (⟨d.v, d.n, d.bs.set j u, d.ch⟩ :: cs.eraseIdx k) := by
      have h1 : (cs.set k ⟨d.v, d.n, d.bs.set j u, d.ch⟩)[k]? = some ⟨d.v, d.n, d.bs.set j u, d.ch⟩ := by simp [hlt]
      have h2 := perm_erase h1
      rw [List.eraseIdx_set_eq] at h2
      exact h2
    rcases List.mem_cons.1 (hperm2.mem_iff.1 hx) with rfl | hx
    · refine ⟨?_, bytesV_set hr.2 j hu⟩
      show w'.ownsRow base 5 1 d.v d.n _
      rw [hv]
      exact ho
    · have hxm : x ∈ cs := List.mem_of_mem_eraseIdx hx
      refine ⟨own_of_chg (h2 x hxm).1 hc (fun q hq hxq => ?_), (h2 x hxm).2⟩
      have hnd2 : (blks (d :: cs.eraseIdx k)).Nodup := ((List.Perm.filterMap (fun d : Dg => d.v.ownBlock) hperm).nodup_iff).1 h3
      unfold blks at hnd2
      rw [List.filterMap_cons, show d.v.ownBlock = some g from by rw [hv]; rfl] at hnd2
      exact (List.nodup_cons.1 hnd2).1 (mem_blks.2 ⟨x, hx, by rw [hq, show q = g from hxq]⟩)
  · rw [blks_set hk (y := ⟨d.v, d.n, d.bs.set j u, d.ch⟩) rfl]; exact h3

def NoX : Nat → Prop := fun _ => False
/-- what holds between two acts -/
def PInv (w0 : World) (p q len : Nat) (i : Int) (w : World) : Prop :=
  ∃ ds cs es fs, J2 w0 w NoX p q ds cs es fs ∧ ds.map vw = es.map vw ∧ cs.map vw = fs.map vw ∧ 0 ≤ i ∧ i ≤ len ∧ ((ds.length + cs.length : Nat) : Int) ≤ i ∧ ∀ d ∈ ds ++ cs, Short d
theorem short_view {ds es : List Dg} (h : ds.map vw = es.map vw) (hs : ∀ d ∈ ds, Short d) : ∀ d ∈ es, Short d := fun d hd => by
  obtain ⟨k, hk, rfl⟩ := List.getElem_of_mem hd
  have hlen : ds.length = es.length := by have := congrArg List.length h; simpa using this
  have hx := List.getElem?_eq_getElem (l := ds) (i := k) (by omega)
  have := view_get h hx (List.getElem?_eq_getElem hk)
  simp only [vw, Prod.mk.injEq] at this
  have h2 := hs _ (List.mem_of_getElem? hx)
  unfold Short at *
  omega
theorem view_bs {ds es : List Dg} (h : ds.map vw = es.map vw) : ds.map Dg.bs = es.map Dg.bs := by
  have := congrArg (List.map (fun x : Nat × List Value × Bool => x.2.1)) h
  simpa [List.map_map, Function.comp_def, vw] using this
theorem view_len {ds es : List Dg} (h : ds.map vw = es.map vw) : ds.length = es.length := by have := congrArg List.length h; simpa using this
theorem lt_of_cell {w : World} {A : Addr} {v : Value} (h : w.cell? A = some v) : A.block < w.heap.size := by
  rcases Nat.lt_or_ge A.block w.heap.size with h' | h'
  · exact h'
  · simp [World.cell?, Array.getElem?_eq_none h'] at h
theorem block_addK (A : Addr) (k : Nat) : (addK A k).block = A.block := by unfold addK Addr.add; split <;> rfl

theorem J2.fresh {w0 w w' : World} {Y : Nat → Prop} {p q : Nat} {ds cs es fs : List Dg} (h : J2 w0 w NoX p q ds cs es fs) (hc : Chg NoS w w') (hY : ∀ k, Y k → w.heap.size ≤ k ∧ k < w'.heap.size) : J2 w0 w' Y p q ds cs es fs := by
  obtain ⟨fp, fq, ⟨vl, vc, hA⟩, ⟨rl, rc, hR⟩, hd, h0, hX⟩ := h
  exact ⟨fp, fq, ⟨vl, vc, hA.chg hc (fun _ _ x => x)⟩, ⟨rl, rc, hR.chg hc (fun _ _ x => x)⟩, hd, h0.trans hc, fun k hk => ⟨⟨by have := hY k hk; have := h0.size; omega, (hY k hk).2⟩, fun h => by have := hA.fpb k h; have := hY k hk; omega, fun h => by have := hR.fpb k h; have := hY k hk; omega⟩⟩
/-- the rows are the same, not what is written in them -/
def SameR (cs cs' : List Dg) : Prop := cs'.map (fun d => (d.v, d.n)) = cs.map (fun d => (d.v, d.n))
theorem SameR.len {cs cs' : List Dg} (h : SameR cs cs') : cs'.length = cs.length := by have := congrArg List.length h; simpa using this
theorem SameR.set {cs cs' : List Dg} (h : SameR cs cs') {k : Nat} {d : Dg} (hk : cs'[k]? = some d) {bs : List Value} {ch : Bool} : SameR cs (cs'.set k ⟨d.v, d.n, bs, ch⟩) := by
  unfold SameR at *
  rw [List.map_set, ← h]
  apply List.ext_getElem?
  intro i
  by_cases hi : i = k
  · subst hi
    rw [List.getElem?_set_self (by simpa using (List.getElem?_eq_some_iff.1 hk).1)]
    simp [hk]
  · rw [List.getElem?_set_ne (fun e => hi e.symm)]
theorem SameR.get {cs cs' : List Dg} (h : SameR cs cs') {k : Nat} {d d' : Dg} (hk : cs[k]? = some d) (hk' : cs'[k]? = some d') : d'.v = d.v ∧ d'.n = d.n := by
  have h1 : (cs'.map (fun d => (d.v, d.n)))[k]? = some (d'.v, d'.n) := by simp [hk']
  rw [h] at h1
  simp [hk] at h1
  exact ⟨h1.1.symm, h1.2.symm⟩
theorem SameR.cx {cs cs' : List Dg} (h : SameR cs cs') (a : Option Addr) : CX a cs' = CX a cs := by
  have : blks cs' = blks cs := by
    have h2 : ∀ l : List Dg, blks l = (l.map (fun d => (d.v, d.n))).filterMap (fun x => x.1.ownBlock) := fun l => by
      unfold blks
      rw [List.filterMap_map]
      rfl
    rw [h2, h2, h]
  unfold CX
  rw [this]

theorem AirPlays_ok {w : World} {la : Option Addr} {len cap : Nat} {L : List A1} (hl : L.length = len) (hL : Acts w la L) (hm : len ≤ 1048576) :
    Calls Try.prog 3 #[.slice la len cap] w (endW (fun v w' => v = .bool true ∧ Chg NoS w w') (fun _ _ => False)) := by
  refine F3_calls la len cap ?_
  delta F3
  refine Calls.then (Great_ok hl hL hm) ?_
  rintro v w' ⟨rfl, b, rfl, hg⟩
  refine ⟨b, rfl, ?_⟩
  by_cases hbf : b = true
  · rw [if_pos hbf]
    refine Calls.then (Wakes_ok w') ?_
    rintro v w2 ⟨rfl, hc⟩
    exact ⟨_, rfl, rfl, hc⟩
  rw [if_neg hbf]
  obtain ⟨hlen, hsmall⟩ := hg (by simpa using hbf)
  refine Calls.then (New_ok w' w'.heap.size (Nat.le_refl _)) ?_
  rintro v w1 ⟨rfl, hA1, hc1, hsz1⟩
  refine ⟨_, rfl, ?_⟩
  have hb1 := blk_alloc w1 (.cells #[Value.slice none 0 0, Value.slice none 0 0] 30)
  simp only [addK_lit, Nat.zero_add, Nat.add_zero]
  refine setW_blk hb1 (by simp) rfl ?_
  intro w2 hb2 hc2 hs2
  refine setW_blk hb2 (by simp) rfl ?_
  intro w3 hb3 hc3 hs3
  have hb3' : w3.heap[w1.heap.size]? = some (.cells #[Value.slice none 0 0, Value.slice none 0 0] 30 (0, 0)) := by rw [hb3]; simp
  have hsa := size_alloc w1 (.cells #[Value.slice none 0 0, Value.slice none 0 0] 30)
  have hc13 : Chg NoS w1 w3 := ((chg_alloc w1 _ NoS).trans2 hc2 (fun i hi (he : i = _) => by omega)).trans2 hc3 (fun i hi (he : i = _) => by omega)
  have hJ : J2 w' w3 NoX w'.heap.size w1.heap.size [] [] [] [] := by
    obtain ⟨vl, vc, hA1⟩ := hA1
    refine ⟨_, fun k => k = w1.heap.size, ⟨vl, vc, hA1.chg hc13 (fun _ _ x => x)⟩, ⟨_, _, hb3', own_nil' _ _ _ _, own_nil' _ _ _ _, (fun d hd => by cases hd), by simp [blks], rfl, (fun k hk => by simp [Value.ownBlock] at hk), (fun k hk => by simp [Value.ownBlock] at hk), (fun d hd => by cases hd), (fun k hk => by subst hk; omega)⟩, (fun k hk h => by omega), hc1.trans hc13, fun k hk => hk.elim⟩
  refine ⟨fun i w4 => PInv w' w'.heap.size w1.heap.size len i w4, fun i _ => (len - i).toNat, ⟨0, ⟨rfl, trivial⟩, [], [], [], [], hJ, rfl, rfl, by omega, by omega, by simp, by simp⟩, ?_⟩
  rintro i w4 ⟨ds, cs, es, fs, hJ4, hvd, hvc, hi0, hi1, hdl, hq⟩ _
  have hle := view_len hvd
  have hlf := view_len hvc
  have hqd : ∀ d ∈ ds, Short d := fun d hd => hq d (List.mem_append_left _ hd)
  have hqc : ∀ d ∈ cs, Short d := fun d hd => hq d (List.mem_append_right _ hd)
  have hqe := short_view hvd hqd
  have hqf := short_view hvc hqc
  have hc04 : Chg NoS w' w4 := by obtain ⟨_, _, _, _, _, h, _⟩ := id hJ4; exact h
  by_cases hi : i < len
  · rw [if_pos (by simpa using hi)]
    obtain ⟨j, rfl⟩ := Int.eq_ofNat_of_zero_le hi0
    have hj : j < L.length := by omega
    have hL4 := hL.keep hc04
    obtain ⟨A, rfl, hx0, hx1, hx2, hd0, hd1, ht0, ht1, hbx⟩ := hL4 j _ (List.getElem?_eq_getElem hj)
    have hAb : A.block < w'.heap.size := by
      obtain ⟨A', eA, h, _⟩ := hL j _ (List.getElem?_eq_getElem hj)
      cases eA
      have := lt_of_cell h
      rwa [block_addK, block_addK] at this
    have hw := wrap1 (j : Int) (by omega) (by omega)
    have hsm := hsmall L[j] (List.getElem_mem hj)
    refine ⟨hi0, hi, _, hx0, ?_⟩
    by_cases hx10 : L[j].d = 10
    · rw [if_pos (by simpa using hx10)]
      have hbs : (L[j].zs.map (Value.int .u8)).length = L[j].n := by rw [List.length_map]; exact hbx.1
      have hbn : L[j].a = none → L[j].n = 0 := fun e => by have := hbx.2.2.2.1 e; have := hbx.2.1; omega
      refine ⟨hi0, hi, _, _, _, cell_keep hx2 (chg_alloc w4 _ NoS), ?_⟩
      refine append_fresh (base := w'.heap.size) hbs hbx.2.2.2.2.2 hbn hbx.bytesV.one (by omega) hc04.size ?_
      intro v5 w5 ho5 hc5 hn5
      obtain ⟨a5, c5, rfl, hnc5, ha5⟩ := own_form ho5
      refine ⟨a5, _, c5, rfl, ?_⟩
      have hJ5 : J2 w' w5 (fun k => (Value.slice a5 L[j].n c5).ownBlock = some k) w'.heap.size w1.heap.size ds cs es fs := hJ4.fresh hc5 fun k hk => ⟨hn5 k hk, (own_lt' ho5 hk).1⟩
      have hr5 := own_reads' ho5
      have hn0 : a5 = none → L[j].n = 0 := fun e => by
        subst e
        rcases ho5.2 with ⟨_, h⟩ | ⟨g, cap, cur, he, _⟩
        · exact h
        · injection he with he; cases he
      refine Calls.then (hJ5.put hbs hr5 hn0 hbx.bytesV (by omega) (by omega)) ?_
      rintro v w6 ⟨rfl, d, hdn, hdb, hdc, hJ6, fp6, hfp6, hc6⟩
      have ho6 := own_of_chg ho5 hc6 hfp6
      refine ⟨fun s w7 => 0 ≤ s ∧ s ≤ L[j].n ∧ ∃ bs, w7.ownsRow w'.heap.size 5 1 (.slice a5 L[j].n c5) L[j].n bs ∧ bytesV bs ∧ J2 w' w7 (fun k => (Value.slice a5 L[j].n c5).ownBlock = some k) w'.heap.size w1.heap.size (ds ++ [d]) cs es fs, fun s _ => (L[j].n - s).toNat, ⟨0, ⟨rfl, trivial⟩, by omega, by omega, _, ho6, hbx.bytesV, hJ6⟩, ?_⟩
      rintro s w7 ⟨hs0, hs1, bs7, ho7, hb7, hJ7⟩ _
      by_cases hs : s < L[j].n
      · rw [if_pos (by simpa using hs)]
        obtain ⟨m, rfl⟩ := Int.eq_ofNat_of_zero_le hs0
        have hm : m < bs7.length := by have := ho7.1; omega
        obtain ⟨A7, eA7, hcell⟩ := own_cell ho7 (List.getElem?_eq_getElem hm)
        obtain ⟨g, rfl⟩ := ha5 A7 eA7
        subst eA7
        obtain ⟨y, hy⟩ := hb7 _ (List.getElem_mem hm)
        rw [hy] at hcell
        refine ⟨hs0, hs, _, by simpa using hcell, hs0, hs, ?_⟩
        obtain ⟨z, hz⟩ := wrap_byte (BitVec.toNat (BitVec.ofInt (8 : Nat) (if IntKind.signed IntKind.u8 = Bool.true then (-1 : Int) else IntKind.max IntKind.u8) ^^^ BitVec.ofInt (8 : Nat) (y.toNat : Int)) : Int)
        rw [hz]
        simp only [wSome, addK_lit, Nat.zero_add, Nat.mul_one, Int.toNat_natCast]
        refine setW_own (j := m) (v := .int .u8 z.toNat) ho7 (by omega) rfl ?_
        intro w8 ho8 hc8 hs8
        exact ⟨(m : Int) + 1, ⟨by rw [wrap1 _ (by omega) (by omega)], trivial⟩, ⟨by omega, by omega, _, ho8, bytesV_set hb7 _ ⟨z, rfl⟩, hJ7.write (hc8.mono fun k _ hk => by rw [show k = g from hk]; rfl)⟩, by omega⟩
      rw [if_neg (by simpa using hs)]
      have hc07 : Chg NoS w' w7 := by obtain ⟨_, _, _, _, _, h, _⟩ := id hJ7; exact h
      obtain ⟨A', eA, hy0, hy1, hy2, _, _, _, _, hby⟩ := hL.keep hc07 j _ (List.getElem?_eq_getElem hj)
      cases eA
      refine ⟨hi0, hi, _, _, _, hy2, ?_⟩
      refine Calls.then (hJ7.rput hbs hby.2.2.2.2.2 hbn hby.bytesV (by omega) (by omega)) ?_
      rintro v w8 ⟨rfl, d2, hdn2, hdb2, hdc2, hJ8⟩
      refine ⟨(j : Int) + 1, ⟨by rw [hw], trivial⟩, ⟨ds ++ [d], cs, es ++ [d2], fs, hJ8.less (fun _ x => x.elim), ?_, hvc, by omega, by omega, by simp; omega, ?_⟩, by dsimp only; omega⟩
      · rw [List.map_append, List.map_append, hvd]
        simp [vw, hdn, hdn2, hdb, hdb2, hdc, hdc2]
      intro x hx
      rcases List.mem_append.1 hx with hx | hx
      · rcases List.mem_append.1 hx with hx | hx
        · exact hqd x hx
        · rw [List.mem_singleton.1 hx]; unfold Short; omega
      · exact hqc x hx
    rw [if_neg (by simpa using hx10)]
    by_cases hx11 : L[j].d = 11
    · rw [if_pos (by simpa using hx11)]
      refine Calls.then (J2.came hJ4) ?_
      rintro v w5 ⟨a, rfl, hC, hJ5⟩
      refine ⟨_, _, _, rfl, ?_⟩
      refine Calls.then (hJ5.rcame) ?_
      rintro v w6 ⟨a2, c2, rfl, hC2, hJ6, fq, hfq, hc6⟩
      refine ⟨_, _, _, rfl, ?_⟩
      have hC6 := hC.chg hc6 hfq
      refine Calls.then (All_ok (hC6.lb (by omega) (fun d hd => by have := hqc d hd; unfold Short at this; omega)) (hC2.lb (by omega) (fun d hd => by have := hqf d hd; unfold Short at this; omega))) ?_
      rintro v w7 ⟨b, rfl, hb, hc7⟩
      refine ⟨b, rfl, ?_⟩
      have hbt := hb.2 (view_bs hvc)
      subst hbt
      rw [if_neg (by simp)]
      refine ⟨fun s w8 => 0 ≤ s ∧ s ≤ cs.length ∧ ∃ cs', SameR cs cs' ∧ Came w8 w'.heap.size a cs' ∧ J2 w' w8 (CX a cs) w'.heap.size w1.heap.size ds [] es [], fun s _ => (cs.length - s).toNat, ⟨0, ⟨rfl, trivial⟩, by omega, by omega, cs, rfl, hC6.chg hc7 (fun _ _ x => x), hJ6.other hc7⟩, ?_⟩
      rintro s w8 ⟨hs0, hs1, cs8, hr8, hC8, hJ8⟩ _
      by_cases hs : s < cs.length
      · rw [if_pos (by simpa using hs)]
        obtain ⟨k, rfl⟩ := Int.eq_ofNat_of_zero_le hs0
        have hk : k < cs.length := by omega
        have hsh := hqc _ (List.getElem_mem hk)
        unfold Short at hsh
        refine ⟨fun t w9 => 0 ≤ t ∧ ∃ cs', SameR cs cs' ∧ Came w9 w'.heap.size a cs' ∧ J2 w' w9 (CX a cs) w'.heap.size w1.heap.size ds [] es [], fun t _ => (cs[k].n - t).toNat, ⟨0, ⟨rfl, trivial⟩, by omega, cs8, hr8, hC8, hJ8⟩, ?_⟩
        rintro t w9 ⟨ht0, cs9, hr9, hC9, hJ9⟩ _
        have hk9 : k < cs9.length := by rw [hr9.len]; exact hk
        have hg9 := List.getElem?_eq_getElem hk9
        obtain ⟨hv9, hn9⟩ := hr9.get (List.getElem?_eq_getElem hk) hg9
        have hrow9 := (hC9.2.1 _ (List.getElem_mem hk9))
        obtain ⟨ad, cd, hvd9, hncd, had⟩ := own_form hrow9.1
        obtain ⟨c9, hout9⟩ := hC9.1
        obtain ⟨A9, rfl, hcell9⟩ := own_cell hout9 (j := k) (u := cs9[k].v) (by simp [hk9])
        rw [hvd9] at hcell9
        refine ⟨hs0, hs, ad, _, cd, by simpa using hcell9, ?_⟩
        by_cases ht : t < cs9[k].n
        · rw [if_pos (by simpa using ht)]
          obtain ⟨m, rfl⟩ := Int.eq_ofNat_of_zero_le ht0
          have hcd := chg_drew w9 NoS
          have hm : m < cs9[k].bs.length := by have := hrow9.1.1; omega
          have hrow9' := hrow9.1
          rw [hvd9] at hrow9'
          obtain ⟨A7, eA7, hcell⟩ := own_cell hrow9' (List.getElem?_eq_getElem hm)
          obtain ⟨g, rfl⟩ := had A7 eA7
          subst eA7
          obtain ⟨y, hy⟩ := hrow9.2 _ (List.getElem_mem hm)
          rw [hy] at hcell
          have hcell9' := cell_keep hcell9 hcd
          have hcell' := cell_keep hcell hcd
          refine ⟨hs0, hs, hs0, hs, some ⟨g, 0, none⟩, _, cd, by simpa using hcell9', some ⟨g, 0, none⟩, _, cd, by simpa using hcell9', ht0, ht, _, by simpa using hcell', ht0, ht, ?_⟩
          obtain ⟨z, hz⟩ := wrap_byte (BitVec.toNat (BitVec.ofInt (8 : Nat) (if IntKind.signed IntKind.u8 = Bool.true then (-1 : Int) else IntKind.max IntKind.u8) ^^^ BitVec.ofInt (8 : Nat) (y.toNat : Int)) : Int)
          rw [hz]
          simp only [wSome, addK_lit, Nat.zero_add, Nat.mul_one, Int.toNat_natCast]
          refine (hC9.chg hcd (fun _ _ x => x)).write (j := m) (u := .int .u8 z.toNat) hg9 hvd9 (by omega) ⟨z, rfl⟩ ?_
          intro w10 hC10 hc10
          refine ⟨(m : Int) + 1, ⟨by rw [wrap1 _ (by omega) (by omega)], trivial⟩, ⟨by omega, _, hr9.set hg9, hC10, (hJ9.other hcd).write (hc10.mono fun q _ hq => ?_)⟩, by omega⟩
          rw [← hr9.cx]
          exact .inr (mem_blks.2 ⟨_, List.getElem_mem hk9, by rw [hvd9, show q = g from hq]; rfl⟩)
        · rw [if_neg (by simpa using ht)]
          exact ⟨(k : Int) + 1, ⟨by rw [wrap1 _ (by omega) (by omega)], trivial⟩, ⟨by omega, by omega, cs9, hr9, hC9, hJ9⟩, by dsimp only; omega⟩
      · rw [if_neg (by simpa using hs)]
        exact ⟨(j : Int) + 1, ⟨by rw [hw], trivial⟩, ⟨ds, [], es, [], hJ8.less (fun _ x => x.elim), hvd, rfl, by omega, by omega, by simp; omega, by simpa using hqd⟩, by dsimp only; omega⟩
    rw [if_neg (by simpa using hx11)]
    refine ⟨fun k => w'.heap.size ≤ k, ?_⟩
    refine ⟨hi0, hi, hi0, hi, hi0, hi, hi0, hi, ?_⟩
    have hcd := chg_drew w4 NoS
    have hnb : ∀ m, ¬ w'.heap.size ≤ (addK (addK A ((j : Int).toNat * 3)) m).block := fun m => by rw [block_addK, block_addK]; omega
    refine ⟨hnb 0, _, cell_keep hx0 hcd, hnb 1, _, cell_keep hx1 hcd, hnb 0, _, cell_keep hx0 hcd, hnb 1, _, cell_keep hx1 hcd, ?_⟩
    refine Calls.then ((hJ4.other hcd).did _ _ hd0 (by omega) (by omega) ht1 (fun d hd => by have := hqd d hd; unfold Short at this; omega)) ?_
    rintro v w5 ⟨e, rfl, ds', cs', hdid, hJ5, fp5, hfp5, hc5⟩
    refine ⟨e, rfl, ⟨hc5.size, fun b hb hnS => hc5.block b hb (fun h => hnS (hfp5 b h))⟩, ?_⟩
    refine Calls.then (hJ5.rdid _ _ hd0 (by omega) (by omega) ht1 (fun d hd => by have := hqe d hd; unfold Short at this; omega)) ?_
    rintro v w6 ⟨e2, rfl, es', fs', hdid2, hJ6⟩
    obtain ⟨he, hv1, hv2⟩ := hdid.view hdid2 hvd hvc
    refine ⟨e2, rfl, ?_⟩
    rw [if_neg (by simp [he])]
    have hlen4 := hdid.len
    exact ⟨(j : Int) + 1, ⟨by rw [hw], trivial⟩, ⟨ds', cs', es', fs', hJ6, hv1, hv2, by omega, by omega, by omega, Short.did hdid hq⟩, by dsimp only; omega⟩
  rw [if_neg (by simpa using hi)]
  refine Calls.then (J2.came hJ4) ?_
  rintro v w5 ⟨a, rfl, hC, hJ5⟩
  refine ⟨_, _, _, rfl, ?_⟩
  refine Calls.then (hJ5.rcame) ?_
  rintro v w6 ⟨a2, c2, rfl, hC2, hJ6, fq, hfq, hc6⟩
  refine ⟨_, _, _, rfl, ?_⟩
  refine Calls.then (All_ok ((hC.chg hc6 hfq).lb (by omega) (fun d hd => by have := hqc d hd; unfold Short at this; omega)) (hC2.lb (by omega) (fun d hd => by have := hqf d hd; unfold Short at this; omega))) ?_
  rintro v w7 ⟨b, rfl, hb, hc7⟩
  refine ⟨b, rfl, ?_⟩
  rw [if_pos (hb.2 (view_bs hvc))]
  refine Calls.then (Wakes_ok w7) ?_
  rintro v w8 ⟨rfl, hc8⟩
  refine ⟨_, rfl, rfl, ?_⟩
  obtain ⟨_, _, _, _, _, h06, _⟩ := hJ6
  exact (h06.trans hc7).trans hc8
theorem AirPlays_walk (a0 : Option Addr) (len0 cap0 : Nat) (w : World) (i0 : Is 1048576 Try.prog w 12 22 [.slice a0 len0 cap0]) :
    Calls Try.prog 3 #[.slice a0 len0 cap0] w (endW (fun v w' => v = .bool true ∧ Chg NoS w w') (fun _ _ => False)) := by
  obtain ⟨L, hl, h1, h2, hL⟩ := acts_in i0
  exact AirPlays_ok hl hL (by omega)
end Go.Proofs.Ytcfagkmkfjhhiaa.B
