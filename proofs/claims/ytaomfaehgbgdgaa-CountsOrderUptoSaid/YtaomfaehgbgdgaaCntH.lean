/-
  Counts: what a switch states, by the program: the walk.
-/
import Derived.Test.YtaomfaehgbgdgaaCntG
set_option maxRecDepth 100000
set_option linter.unusedVariables false
set_option linter.unusedSimpArgs false
namespace Go.Proofs.Ytaomfaehgbgdgaa.B
open Go Go.Proofs Go.Proofs.YtaomfaehgbgdgaaEng

theorem setPl {w : World} {p : Pl} {g : Nat} {cs : Array Value} {K : World → Prop} (h : w.heap[g]? = some (.cells cs 71 (0, 0))) (hs : cs.size = 3)
    (hK : ∀ w', w'.heap[g]? = some (.cells #[.int .u16 p.1, .bool p.2.1, .int .u64 p.2.2] 71 (0, 0)) → Chg (OnlyB g) w w' → w'.heap.size = w.heap.size → K w') :
    setW w (addK ⟨g, 0, none⟩ 0) (.int .u16 p.1) fun w1 => setW w1 (addK ⟨g, 0, none⟩ 1) (.bool p.2.1) fun w2 => setW w2 (addK ⟨g, 0, none⟩ 2) (.int .u64 p.2.2) K :=
  (sets_blk (vs := [.int .u16 p.1, .bool p.2.1, .int .u64 p.2.2]) h hs (by simp [oneC]) hK : setsW _ _ _ _ _)
theorem rdPl {w : World} {p : Pl} {g : Nat} (i : Nat) (h : w.heap[g]? = some (.cells #[.int .u16 p.1, .bool p.2.1, .int .u64 p.2.2] 71 (0, 0))) : w.cell? (addK ⟨g, 0, none⟩ i) = #[Value.int .u16 p.1, .bool p.2.1, .int .u64 p.2.2][i]? := by rw [addK_lit, cell_blk h, Nat.zero_add]
theorem rdBk {w : World} {b r q : Nat} {L : List En} {V : List Ve} {W G : Nat → Prop} (h : Warm w b r q L V W G) : w.cell? (addK ⟨b, 0, none⟩ 3) = some (.map (some r)) := by rw [addK_lit, cell_blk h.bk]; rfl
theorem rdBk4 {w : World} {b r q : Nat} {L : List En} {V : List Ve} {W G : Nat → Prop} (h : Warm w b r q L V W G) : w.cell? (addK ⟨b, 0, none⟩ 4) = some (.map (some q)) := by rw [addK_lit, cell_blk h.bk]; rfl
theorem Stated_ok {w : World} {b : Nat} {L : List En} {V : List Ve} {W G : Nat → Prop} (h : Book w b L V W G) {sw : Int} (hsw : 0 ≤ sw ∧ sw ≤ 65535) {a : Option Addr} {n c : Nat} {hs : List (Int × Int)} (hr : ∀ w', Chg W w w' → HRow w' a hs) (hn : n = hs.length) (hn2 : n ≤ 9223372036854775807) :
    Calls Try.prog 8 #[.pointer (some ⟨b, 0, none⟩), .int .u16 sw, .slice a n c] w (endW (fun v w' => v = .tuple #[] ∧ ∃ L' W' r q, Warm w' b r q L' V W' G ∧ Chg W w w' ∧ (∀ k, W k → W' k) ∧ (∀ k, W' k → W k ∨ w.heap.size ≤ k) ∧ cont L' = goneC sw hs ((cont L).filter fun x => !mineS sw x.1)) (fun _ _ => False)) := by
  refine F8_calls (some ⟨b, 0, none⟩) sw a n c ?_
  delta F8
  rw [if_neg (by simp)]
  refine Calls.then (Ready_ok h) ?_
  rintro v w1 ⟨rfl, W1, r, q, h1, c1, u1, v1⟩
  refine ⟨_, rfl, ?_⟩
  rw [wSome_some']
  refine ⟨_, rdBk h1, ?_⟩
  obtain ⟨cl, hm1, hb1⟩ := h1.sums
  refine range_map map66 hm1 fun w2 hit2 c2 z2 => ?_
  have h2 := h1.keep c2 fun _ _ x => x
  have hm2 := c2.blk hm1 (fun x => x)
  have hrl := h1.lt r (.inl h1.wr)
  have hbl := h1.lt b (.inl h1.fb)
  have s1 := c1.size
  refine ⟨fun _ w3 => ∃ seen, w3.heap[w1.heap.size]? = some (.mapIter (some r) cl seen cl) ∧ w3.heap[r]? = some (.map ((takeS sw L seen).map En.me).toArray cl) ∧ Warm w3 b r q (takeS sw L seen) V W1 G ∧ Chg (OnlyB r) w1 w3, fun _ w3 => (L.filter fun e => !(w3.iterSeen w1.heap.size).contains e.born).length, ⟨(), trivial, #[], hit2, ?_, ?_, c2.mono fun _ _ x => x.elim⟩, ?_⟩
  · have : takeS sw L #[] = L := List.filter_eq_self.2 fun e he => by simp
    rw [this]; exact hm2
  · have : takeS sw L #[] = L := List.filter_eq_self.2 fun e he => by simp
    rw [this]; exact h2
  rintro _ w3 ⟨seen, hit, hm, hw, c3⟩ _
  have hborn : ∀ e ∈ takeS sw L seen, e.born < cl := fun e he => hb1 e (List.mem_filter.1 he).1
  have s3 := c3.size
  refine next_map hit hm (not_all_new fun x hx => by
    obtain ⟨e, he, rfl⟩ := List.mem_map.1 hx
    exact hborn e he) (fun hdone w4 heq c4 => ?_) fun e he hse w4 hit4 c4 z4 => ?_
  · -- all that it had stated is gone
    refine .inl ⟨rfl, ?_⟩
    have hall : takeS sw L seen = L.filter fun e => !mineS sw e.pl := by
      refine List.filter_congr fun e he => ?_
      by_cases hmn : mineS sw e.pl = true
      · by_cases hsn : seen.contains e.born = true
        · simp [hmn]; simpa using hsn
        · have hin : e ∈ takeS sw L seen := List.mem_filter.2 ⟨he, by simp; right; simpa using hsn⟩
          have := hdone e.me (by simpa using List.mem_map_of_mem hin) (show seen.contains e.born = false by simpa using hsn)
          have h5 := hborn e hin
          have h6 : cl ≤ e.born := this
          omega
      · simp [hmn]
    have hw4 := hw.keep c4 fun _ _ x => x
    rw [hall] at hw4
    have c14 : Chg W w w4 := (c1.trans2 (c3.mono fun x _ e => e) (fun x hx e => (v1 x (by have e' : x = r := e; subst e'; exact h1.wr)).elim id fun hh => by omega)).trans (c4.mono fun _ _ x => x.elim)
    refine Calls.then (Gone_ok hw4 hsw (fun w' hc => hr w' (c14.trans2 hc fun x hx e => (v1 x e).elim id fun hh => by omega)) hn hn2) ?_
    rintro v w5 ⟨rfl, L5, W5, h5, c5, u5, v5, e5⟩
    have s4 := c14.size
    refine ⟨rfl, L5, W5, r, q, h5, c14.trans2 c5 (fun x hx e => (v1 x e).elim id fun hh => by omega), fun k hk => u5 k (u1 k hk), fun k hk => (v5 k hk).elim (fun hk => v1 k hk) fun hk => .inr (by omega), ?_⟩
    rw [e5, cont_filter L fun p => !mineS sw p]
  · refine .inr ⟨_, _, rfl, ?_⟩
    rw [List.toList_toArray] at he
    obtain ⟨x, hx, rfl⟩ := List.mem_map.1 he
    obtain ⟨hxL, hxk⟩ := List.mem_filter.1 hx
    have hne : r ≠ w1.heap.size := by omega
    have hm4 := c4.blk hm (fun e => hne e)
    have hw4 := hw.keep c4 fun k hk e => by
      have e' : k = w1.heap.size := e
      have := h1.lt k hk
      omega
    refine entry_map hit4 hm4 (by simpa using List.mem_map_of_mem (f := En.me) hx) (by simpa [List.map_map, Function.comp_def, En.me] using hw.nd3) ?_
    refine agg3 (p := x.pl) (k := some ⟨x.blk, 0, none⟩) ?_
    have ca := chg_alloc w4 (.cells #[.int .u16 0, .bool false, .int .u64 0] 71) NoS
    refine setPl (p := x.pl) (blk_alloc w4 (.cells #[.int .u16 0, .bool false, .int .u64 0] 71)) rfl fun w5 b5 c5 z5 => ?_
    have c45 : Chg NoS w4 w5 := ca.trans2 c5 fun k hk e => by have : k = w4.heap.size := e; omega
    have hm5 := c45.blk hm4 (fun x => x)
    have hw5 := hw4.keep c45 fun _ _ x => x
    have hit5 := c45.blk hit4 (fun x => x)
    have s45 := c45.size
    have s4 := c4.size
    have hstep := takeS_step (sw := sw) (seen := seen) (by rw [← show L.map En.born = L.map En.born from rfl]; exact h1.nd3) h1.nd1 hxL
    have c15 : Chg (OnlyB r) w1 w5 := (c3.trans2 c4 (fun k hk e => by have : k = w1.heap.size := e; omega)).trans (c45.mono fun _ _ x => x.elim)
    have hmu : ∀ w6 : World, w6.heap[w1.heap.size]? = some (.mapIter (some r) cl (seen.push x.born) cl) → (L.filter fun e => !(w6.iterSeen w1.heap.size).contains e.born).length < (L.filter fun e => !(w3.iterSeen w1.heap.size).contains e.born).length := fun w6 hit6 => by
      have e6 : w6.iterSeen w1.heap.size = seen.push x.born := by unfold World.iterSeen; rw [hit6]
      have e3 : w3.iterSeen w1.heap.size = seen := by unfold World.iterSeen; rw [hit]
      rw [e6, e3]
      exact left_less hxL hse
    refine ⟨_, (rdPl 0 b5).trans rfl, ?_⟩
    by_cases hs : x.pl.1 = sw
    · rw [if_pos (by simp [hs])]
      refine ⟨_, (rdPl 1 b5).trans rfl, ?_⟩
      by_cases hb : x.pl.2.1 = false
      · rw [if_pos (by simp [hb]), wSome_some']
        have cd := chg_drew w5 NoS
        have bd := cd.blk b5 (fun x => x)
        have hmd := cd.blk hm5 (fun x => x)
        have hwd := hw5.keep cd fun _ _ x => x
        have hitd := cd.blk hit5 (fun x => x)
        have sd := size_drew w5
        generalize w5.drew = w6 at *
        refine ⟨_, rdBk hwd, _, (rdPl 0 bd).trans rfl, _, (rdPl 1 bd).trans rfl, _, (rdPl 2 bd).trans rfl, ?_⟩
        refine delete_place hwd hmd hborn hx fun w7 hm7 hw7 c7 z7 => ?_
        have hmine : mineS sw x.pl = true := by simp [mineS, hs, hb]
        rw [if_pos hmine] at hstep
        have hit7 := c7.blk hitd (fun e => hne e.symm)
        rw [← hstep] at hm7 hw7
        exact ⟨(), trivial, ⟨seen.push x.born, hit7, hm7, hw7, (c15.trans (cd.mono fun _ _ x => x.elim)).trans c7⟩, hmu w7 hit7⟩
      · rw [if_neg (by simp [hb])]
        have hmine : ¬ mineS sw x.pl = true := by simp [mineS, hb]
        rw [if_neg hmine] at hstep
        rw [← hstep] at hm5 hw5
        exact ⟨(), trivial, ⟨seen.push x.born, hit5, hm5, hw5, c15⟩, hmu w5 hit5⟩
    · rw [if_neg (by simp [hs])]
      have hmine : ¬ mineS sw x.pl = true := by simp [mineS, hs]
      rw [if_neg hmine] at hstep
      rw [← hstep] at hm5 hw5
      exact ⟨(), trivial, ⟨seen.push x.born, hit5, hm5, hw5, c15⟩, hmu w5 hit5⟩
end Go.Proofs.Ytaomfaehgbgdgaa.B
