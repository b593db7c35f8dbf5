/-
  Counts: the sum of a place.
-/
import Derived.Test.YtaomfaehgbgdgaaCntC
set_option maxRecDepth 100000
set_option linter.unusedVariables false
set_option linter.unusedSimpArgs false
namespace Go.Proofs.Ytaomfaehgbgdgaa.B
open Go Go.Proofs Go.Proofs.YtaomfaehgbgdgaaEng

theorem map66 : Try.prog.underlying 66 = some (.map 71 83) := by kernel_rfl
theorem map67 : Try.prog.underlying 67 = some (.map 3 53) := by kernel_rfl
theorem zero83 (w : World) : (zeroValue 83).run Try.prog w = .ok (.pointer none) w := by
  obtain ⟨i, hi, hz, _⟩ := info_open' (P := Try.prog) (t := 83) (z := .pointer none) (s := 1) (b := 8) (by kernel_rfl)
  simp [zeroValue, typeInfo, hi, hz]
theorem keptN {w w' : World} (h : Chg NoS w w') : Kept NoS w w' := ⟨h.size, fun b hb _ => h.block b hb (fun x => x)⟩
theorem Ready_warm {w : World} {b r q : Nat} {L : List En} {V : List Ve} {W G : Nat → Prop} (h : Warm w b r q L V W G) :
    Calls Try.prog 16 #[.pointer (some ⟨b, 0, none⟩)] w (endW (fun v w' => v = .pointer (some ⟨b, 0, none⟩) ∧ Chg NoS w w' ∧ Warm w' b r q L V W G) (fun _ _ => False)) := by
  refine F16_calls (some ⟨b, 0, none⟩) ?_
  delta F16
  have c1 := chg_alloc w (.cells #[.pointer (some ⟨b, 0, none⟩)] 27) NoS
  have b1 := blk_alloc w (.cells #[.pointer (some ⟨b, 0, none⟩)] 27)
  generalize w.alloc (.cells #[.pointer (some ⟨b, 0, none⟩)] 27) = w1 at *
  refine ⟨_, (cell_blk b1 0).trans rfl, ?_⟩
  rw [wSome_some', addK_zero]
  have hw := h.keep c1 fun _ _ x => x
  have f0 : w1.cell? ⟨b, 0, none⟩ = some (.int .u32 1) := by rw [cell_blk hw.bk]; rfl
  refine (do_done ⟨b, 0, none⟩ 1 (by decide) _ w1 f0).mono fun e w' he => ?_
  obtain ⟨rfl, rfl⟩ := he
  exact ⟨_, (cell_blk b1 0).trans rfl, rfl, c1, hw⟩
/-- which entry has a place -/
theorem find_place {w : World} {L : List En} (hL : ∀ e ∈ L, PlOk e.pl) {p : Pl} (hp : PlOk p) (wX : World) :
    ((Instr.findKey 71 (plV p) (L.map En.me)).run Try.prog wX = .ok none wX ∧ ∀ e ∈ L, e.pl ≠ p) ∨ ∃ j e, (Instr.findKey 71 (plV p) (L.map En.me)).run Try.prog wX = .ok (some (j, .pointer (some ⟨e.blk, 0, none⟩))) wX ∧ L[j]? = some e ∧ e.pl = p := by
  obtain ⟨l, hl⟩ := key71 hp
  rcases law71.find wX hl (L.map En.me) (fun e he => by
    obtain ⟨x, hx, rfl⟩ := List.mem_map.1 he
    exact key71 (hL x hx)) with ⟨h1, h2⟩ | ⟨j, e, h1, h2, h3⟩
  · exact .inl ⟨h1, fun e he h => h2 e.me (List.mem_map_of_mem he) (by rw [← h]; rfl)⟩
  · rw [List.getElem?_map] at h2
    obtain ⟨x, hx, rfl⟩ := Option.map_eq_some_iff.1 h2
    exact .inr ⟨j, x, h1, hx, plV_inj h3⟩
theorem check71 {p : Pl} (hp : PlOk p) (w : World) (em : Bool) : (Instr.checkKey em 10000 71 (plV p)).run Try.prog w = .ok () w := by
  obtain ⟨l, hl⟩ := key71 hp
  exact law71.check w em hl
/-- the pointer that stands at a place, if there is one -/
theorem look_sum {w : World} {b r q : Nat} {L : List En} {V : List Ve} {W G : Nat → Prop} (h : Warm w b r q L V W G) {p : Pl} (hp : PlOk p) :
    ((Instr.lookup 66 (.map (some r)) (plV p) false).run Try.prog w = .ok (.pointer none) w ∧ ∀ e ∈ L, e.pl ≠ p) ∨ ∃ e ∈ L, e.pl = p ∧ (Instr.lookup 66 (.map (some r)) (plV p) false).run Try.prog w = .ok (.pointer (some ⟨e.blk, 0, none⟩)) w := by
  obtain ⟨c, h1, _⟩ := h.sums
  rcases find_place (w := w) (fun e he => (h.ent e he).1) hp w with ⟨h2, h3⟩ | ⟨j, e, h2, h3, h4⟩
  · refine .inl ⟨?_, h3⟩
    simp [Instr.lookup, run_underlying map66, MapKept.run_getObj_map h1, check71 hp, h2, zero83, Result.andThen]
  · refine .inr ⟨e, List.mem_of_getElem? h3, h4, ?_⟩
    simp [Instr.lookup, run_underlying map66, MapKept.run_getObj_map h1, check71 hp, h2, Result.andThen]
/-- a map is written -/
theorem map_set {w : World} {r : Nat} {es es' : Array MapEntry} {c c' : Nat} (h : w.heap[r]? = some (.map es c)) :
    ({ w with heap := w.heap.setIfInBounds r (.map es' c') } : World).heap[r]? = some (.map es' c') ∧ Chg (OnlyB r) w { w with heap := w.heap.setIfInBounds r (.map es' c') } :=
  ⟨Array.getElem?_setIfInBounds_self_of_lt (lt_of_blk h), ⟨rfl, rfl, rfl, by simp, fun k hk hne => Array.getElem?_setIfInBounds_ne (fun e => hne e.symm)⟩⟩
/-- a place that was not there is written down -/
theorem put_sum {w : World} {b r q k : Nat} {L : List En} {V : List Ve} {W G : Nat → Prop} {p : Pl} {K : World → Prop} {E : PanW} (h : Warm w b r q L V W G) (hp : PlOk p) (hno : ∀ e ∈ L, e.pl ≠ p) (hk : SumAt w k 0) (hkW : ¬ (W k ∨ G k))
    (hK : ∀ w' born, Warm w' b r q (L ++ [⟨p, k, 0, born⟩]) V (fun x => W x ∨ x = k) G → Chg (OnlyB r) w w' → K w') : runU Try.prog (Instr.mapUpdate 66 (.map (some r)) (plV p) (.pointer (some ⟨k, 0, none⟩))) w K E := by
  obtain ⟨c, h1, hc⟩ := h.sums
  rcases find_place (w := w) (fun e he => (h.ent e he).1) hp w with ⟨h2, h3⟩ | ⟨j, e, h2, h3, h4⟩
  rotate_left
  · exact absurd h4 (hno e (List.mem_of_getElem? h3))
  have hrun : (Instr.mapUpdate 66 (.map (some r)) (plV p) (.pointer (some ⟨k, 0, none⟩))).run Try.prog w = .ok () { w with heap := w.heap.setIfInBounds r (.map ((L.map En.me).toArray.push { key := plV p, val := .pointer (some ⟨k, 0, none⟩), born := c }) (c + 1)) } := by
    simp [Instr.mapUpdate, run_underlying map66, MapKept.run_getObj_map h1, check71 hp, h2, MapKept.run_setObj_map _ h1, Result.andThen]
  unfold runU
  rw [hrun]
  obtain ⟨m1, m2⟩ := map_set (es' := (L.map En.me).toArray.push { key := plV p, val := .pointer (some ⟨k, 0, none⟩), born := c }) (c' := c + 1) h1
  generalize ({ w with heap := w.heap.setIfInBounds r (.map ((L.map En.me).toArray.push { key := plV p, val := .pointer (some ⟨k, 0, none⟩), born := c }) (c + 1)) } : World) = w' at *
  have hne : ∀ x, x ≠ r → ¬ OnlyB r x := fun x hx e => hx e
  have hkr : k ≠ r := fun e => hkW (.inl (e ▸ h.wr))
  refine hK w' c ⟨m2.blk h.bk (hne b h.nbr), .inl h.fb, .inl h.wr, .inl h.wq, h.nbr, h.nbq, h.nrq, fun x hx => ?_, fun x hx hg => ?_, ⟨c + 1, by rw [m1]; simp [En.me], fun e he => ?_⟩, fun e he => ?_, ?_, ?_, ?_, ?_, fun v hv => ?_, h.vnd1, h.vnd2⟩ m2
  · rcases hx with (hx | rfl) | hx
    · exact Nat.lt_of_lt_of_le (h.lt x (.inl hx)) m2.size
    · exact Nat.lt_of_lt_of_le (lt_of_blk hk) m2.size
    · exact Nat.lt_of_lt_of_le (h.lt x (.inr hx)) m2.size
  · rcases hx with hx | rfl
    · exact h.dis x hx hg
    · exact hkW (.inr hg)
  · rcases List.mem_append.1 he with he | he
    · have := hc e he; omega
    · rw [List.mem_singleton.1 he]; exact Nat.lt_succ_self c
  · rcases List.mem_append.1 he with he | he
    · obtain ⟨g1, g2, g3, g4, g5⟩ := h.ent e he
      exact ⟨g1, g2.keep m2 (hne _ g5.2.1), g3, .inl g4, g5⟩
    · rw [List.mem_singleton.1 he]
      exact ⟨hp, hk.keep m2 (hne k hkr), by simp, .inr rfl, fun e => hkW (.inl ((show k = b from e) ▸ h.fb)), hkr, fun e => hkW (.inl ((show k = q from e) ▸ h.wq))⟩
  · rw [List.map_append, List.nodup_append]
    refine ⟨h.nd1, by simp, fun x hx y hy => ?_⟩
    obtain ⟨e, he, rfl⟩ := List.mem_map.1 hx
    rw [List.mem_singleton.1 hy]
    exact hno e he
  · rw [List.map_append, List.nodup_append]
    refine ⟨h.nd2, by simp, fun x hx y hy => ?_⟩
    obtain ⟨e, he, rfl⟩ := List.mem_map.1 hx
    rw [List.mem_singleton.1 hy]
    exact fun e' => hkW (.inl ((show e.blk = k from e') ▸ (h.ent e he).2.2.2.1))
  · rw [List.map_append, List.nodup_append]
    refine ⟨h.nd3, by simp, fun x hx y hy => ?_⟩
    obtain ⟨e, he, rfl⟩ := List.mem_map.1 hx
    rw [List.mem_singleton.1 hy]
    have := hc e he
    show e.born ≠ c
    omega
  · obtain ⟨c', g1, g2⟩ := h.vers
    exact ⟨c', m2.blk g1 (hne q (fun e => h.nrq e.symm)), g2⟩
  · obtain ⟨g1, g2, g3, g4⟩ := h.vent v hv
    exact ⟨g1.chg m2 fun A hA e => by
      have e' : A.block = r := e
      exact h.dis r h.wr (e' ▸ g3 A hA), g2, g3, g4⟩
theorem At_ok {w : World} {b r q : Nat} {L : List En} {V : List Ve} {W G : Nat → Prop} (h : Warm w b r q L V W G) {p : Pl} (hp : PlOk p) :
    Calls Try.prog 17 #[.pointer (some ⟨b, 0, none⟩), plV p] w (endW (fun v w' => ∃ k, v = .pointer (some ⟨k, 0, none⟩) ∧ Chg (OnlyB r) w w' ∧
      ((∃ e ∈ L, e.pl = p ∧ e.blk = k ∧ Warm w' b r q L V W G) ∨ ((∀ e ∈ L, e.pl ≠ p) ∧ w.heap.size ≤ k ∧ ∃ born, Warm w' b r q (L ++ [⟨p, k, 0, born⟩]) V (fun x => W x ∨ x = k) G))) (fun _ _ => False)) := by
  refine F17_calls (some ⟨b, 0, none⟩) p.1 p.2.1 p.2.2 ?_
  delta F17
  have c1 := chg_alloc w (.cells #[.int .u16 p.1, .bool p.2.1, .int .u64 p.2.2] 71) NoS
  have b1 := blk_alloc w (.cells #[.int .u16 p.1, .bool p.2.1, .int .u64 p.2.2] 71)
  have z1 := size_alloc w (.cells #[.int .u16 p.1, .bool p.2.1, .int .u64 p.2.2] 71)
  generalize w.alloc (.cells #[.int .u16 p.1, .bool p.2.1, .int .u64 p.2.2] 71) = w1 at *
  have cd := chg_drew w1 NoS
  have hd := h.keep (c1.trans cd) fun _ _ x => x
  have bd := cd.blk b1 (fun x => x)
  have zd := size_drew w1
  generalize w1.drew = wd at *
  have rd : ∀ {w' : World} (i : Nat), w'.heap[w.heap.size]? = some (.cells #[.int .u16 p.1, .bool p.2.1, .int .u64 p.2.2] 71 (0, 0)) → w'.cell? (addK ⟨w.heap.size, 0, none⟩ i) = #[Value.int .u16 p.1, .bool p.2.1, .int .u64 p.2.2][i]? := fun i hh => by rw [addK_lit, cell_blk hh, Nat.zero_add]
  have bk : ∀ {w' : World} {L' W' }, Warm w' b r q L' V W' G → w'.cell? (addK ⟨b, 0, none⟩ 3) = some (.map (some r)) := fun hh => by rw [addK_lit, cell_blk hh.bk]; rfl
  refine ⟨NoS, fun x => x, _, (rd 0 bd).trans rfl, _, (rd 1 bd).trans rfl, _, (rd 2 bd).trans rfl, ?_⟩
  refine Calls.then (Ready_warm hd) ?_
  rintro v w2 ⟨rfl, c2, h2⟩
  refine ⟨_, rfl, keptN c2, ?_⟩
  rw [wSome_some']
  refine ⟨fun x => x, _, bk hd, ?_⟩
  have c02 : Chg NoS w w2 := (c1.trans cd).trans c2
  have b2 := c2.blk bd (fun x => x)
  rcases look_sum h2 hp with ⟨h3, h4⟩ | ⟨e, he, h3, h4⟩
  · refine runV_of_ok h3 ⟨_, rfl, ?_⟩
    rw [if_pos (show Option.isNone (none : Option Addr) = true from rfl), wSome_some']
    have c3 := chg_drew w2 NoS
    have hw3 := h2.keep c3 fun _ _ x => x
    have b3 := c3.blk b2 (fun x => x)
    have z3 := size_drew w2
    generalize w2.drew = w3 at *
    refine ⟨_, bk hw3, _, (rd 0 b3).trans rfl, _, (rd 1 b3).trans rfl, _, (rd 2 b3).trans rfl, ?_⟩
    have c4 := chg_alloc w3 (.cells #[.int .u64 0] 90) NoS
    have k4 := blk_alloc w3 (.cells #[.int .u64 0] 90)
    have hw4 := hw3.keep c4 fun _ _ x => x
    have b4 := c4.blk b3 (fun x => x)
    refine ⟨c4.sameOld, ?_⟩
    generalize w3.alloc (.cells #[.int .u64 0] 90) = w4 at *
    have s2 := c02.size
    have hk4 : SumAt w4 w3.heap.size 0 := k4
    refine put_sum hw4 hp h4 hk4 (fun hx => by have := h.lt _ hx; omega) fun w5 born hw5 c5 => ?_
    rw [wSome_some']
    have hrlt := h.lt r (.inl h.wr)
    have b5 := c5.blk b4 (fun e => by have : w.heap.size = r := e; omega)
    have c6 := chg_drew w5 NoS
    have hw6 := hw5.keep c6 fun _ _ x => x
    have b6 := c6.blk b5 (fun x => x)
    generalize w5.drew = w6 at *
    refine ⟨_, bk hw6, _, (rd 0 b6).trans rfl, _, (rd 1 b6).trans rfl, _, (rd 2 b6).trans rfl, ?_⟩
    rcases look_sum hw6 hp with ⟨g1, g2⟩ | ⟨e, he, g1, g2⟩
    · exact absurd rfl (g2 ⟨p, w3.heap.size, 0, born⟩ (List.mem_append_right _ (List.mem_singleton.2 rfl)))
    · have : e.blk = w3.heap.size := by
        rcases List.mem_append.1 he with he | he
        · exact absurd g1 (h4 e he)
        · rw [List.mem_singleton.1 he]
      rw [this] at g2
      refine runV_of_ok g2 ⟨_, rfl, w3.heap.size, rfl, ?_, .inr ⟨h4, by omega, born, hw6⟩⟩
      exact ((((c02.trans c3).trans c4).mono fun _ _ x => x.elim).trans c5).trans (c6.mono fun _ _ x => x.elim)
  · refine runV_of_ok h4 ⟨_, rfl, ?_⟩
    rw [if_neg (by simp), wSome_some']
    have c3 := chg_drew w2 NoS
    have hw3 := h2.keep c3 fun _ _ x => x
    have b3 := c3.blk b2 (fun x => x)
    generalize w2.drew = w3 at *
    refine ⟨_, bk hw3, _, (rd 0 b3).trans rfl, _, (rd 1 b3).trans rfl, _, (rd 2 b3).trans rfl, ?_⟩
    rcases look_sum hw3 hp with ⟨g1, g2⟩ | ⟨e', he', g1, g2⟩
    · exact absurd h3 (g2 e he)
    · refine runV_of_ok g2 ⟨_, rfl, e'.blk, rfl, (c02.trans c3).mono fun _ _ x => x.elim, .inl ⟨e', he', g1, rfl, hw3⟩⟩
end Go.Proofs.Ytaomfaehgbgdgaa.B
