/-
  Counts: a reset of two sums.
-/
import Derived.Test.YtaomfaehgbgdgaaCntK
set_option maxRecDepth 100000
set_option linter.unusedVariables false
set_option linter.unusedSimpArgs false
namespace Go.Proofs.Ytaomfaehgbgdgaa.B
open Go Go.Proofs Go.Proofs.YtaomfaehgbgdgaaEng

/-- what of the map's entries has not been handed out -/
def mapLeft (w : World) (it r : Nat) : Nat := match w.heap[r]? with
  | some (.map es _) => (es.toList.filter fun x => !(w.iterSeen it).contains x.born).length
  | _ => 0
theorem mapLeft_eq {w : World} {it r c : Nat} {L : List En} {a : Option Nat} {s l : Nat} {seen : Array Nat} (hm : w.heap[r]? = some (.map (L.map En.me).toArray c)) (hit : w.heap[it]? = some (.mapIter a s seen l)) : mapLeft w it r = (L.filter fun x => !seen.contains x.born).length := by
  unfold mapLeft
  rw [hm]
  have : w.iterSeen it = seen := by unfold World.iterSeen; rw [hit]
  simp only [this]
  rw [List.filter_map, List.length_map]
  rfl
theorem iterSeen_eq {w : World} {it : Nat} {a : Option Nat} {s l : Nat} {seen : Array Nat} (hit : w.heap[it]? = some (.mapIter a s seen l)) : w.iterSeen it = seen := by unfold World.iterSeen; rw [hit]
theorem left_more {L : List En} {seen : Array Nat} (n : Nat) : (L.filter fun x => !(seen.push n).contains x.born).length ≤ (L.filter fun x => !seen.contains x.born).length := by
  induction L with
  | nil => simp
  | cons x L ih =>
    rw [List.filter_cons, List.filter_cons]
    by_cases h : seen.contains x.born = true
    · have h2 : (seen.push n).contains x.born = true := by rw [Array.contains_push, h]; rfl
      rw [if_neg (by rw [h2]; simp), if_neg (by rw [h]; simp)]
      exact ih
    · by_cases h2 : (seen.push n).contains x.born = true
      · rw [if_neg (by rw [h2]; simp), if_pos (by simpa using h)]
        simp only [List.length_cons]
        omega
      · rw [if_pos (by simpa using h2), if_pos (by simpa using h)]
        simp only [List.length_cons]
        omega
theorem has_old {seen : Array Nat} {es : List MapEntry} {last : Nat} {x : MapEntry} (hx : x ∈ es) (h : x.born < last) : (!seen.isEmpty && !es.toArray.isEmpty && es.toArray.all (fun x => decide (x.born ≥ last))) = false := by
  have : es.toArray.all (fun x => decide (x.born ≥ last)) = false := by
    rw [Bool.eq_false_iff]
    intro hh
    rw [Array.all_eq_true_iff_forall_mem] at hh
    have := hh x (by simpa using hx)
    simp at this
    omega
  rw [this, Bool.and_false]
/-- the two entries, one of which may have gone to the base -/
def Two (e1 e3 x y : En) : Prop := (x = e1 ∧ y = e3) ∨ (x = e3 ∧ y = e1)
inductive Stage (e1 e3 : En) (seen : Array Nat) (last : Nat) : List En → Prop
  | none : seen.contains e1.born = false → seen.contains e3.born = false → e1.born < last → Stage e1 e3 seen last [e1, e3]
  | one {x y bx : En} : Two e1 e3 x y → bx.pl = (0, true, x.pl.2.2) → bx.n = x.n → seen.contains x.born = true → seen.contains y.born = false → y.born < last → Stage e1 e3 seen last [y, bx]
  | both {x y bx b2 : En} : Two e1 e3 x y → bx.pl = (0, true, x.pl.2.2) → bx.n = x.n → b2.pl = (0, true, y.pl.2.2) → b2.n = y.n → seen.contains x.born = true → seen.contains y.born = true → bx.born < last → Stage e1 e3 seen last [bx, b2]
theorem stage_pass {e1 e3 x : En} {seen : Array Nat} {last c : Nat} {L1 : List En} (h : Stage e1 e3 seen last L1) (hx : x ∈ L1) (hb : x.pl.2.1 = true) (h1 : e1.pl.2.1 = false) (h3 : e3.pl.2.1 = false) (hn : (L1.map En.born).Nodup) (hc : ∀ y ∈ L1, y.born < c) : Stage e1 e3 (seen.push x.born) c L1 := by
  have push : ∀ {y : En}, seen.contains y.born = true → (seen.push x.born).contains y.born = true := fun hh => by rw [Array.contains_push, hh]; rfl
  cases h with
  | none a1 a2 a3 =>
    rcases List.mem_cons.1 hx with rfl | hx
    · rw [h1] at hb; cases hb
    · rw [List.mem_singleton.1 hx, h3] at hb; cases hb
  | @one y z bx a1 a2 a3 a4 a5 a6 =>
    have hz : z.pl.2.1 = false := by rcases a1 with ⟨_, rfl⟩ | ⟨_, rfl⟩ <;> assumption
    have hxb : x = bx := by
      rcases List.mem_cons.1 hx with rfl | hx
      · rw [hz] at hb; cases hb
      · exact List.mem_singleton.1 hx
    subst hxb
    have hne : z.born ≠ x.born := fun e => by
      simp only [List.map_cons, List.map_nil, List.nodup_cons, List.mem_singleton] at hn
      exact hn.1 e
    exact .one a1 a2 a3 (push a4) (by rw [Array.contains_push, a5]; simpa using hne) (hc z (by simp))
  | both a1 a2 a3 a4 a5 a6 a7 a8 => exact .both a1 a2 a3 a4 a5 (push a6) (push a7) (hc _ (List.mem_cons_self ..))
theorem stage_move {e1 e3 x : En} {seen : Array Nat} {last c : Nat} {L1 : List En} (h : Stage e1 e3 seen last L1) (hx : x ∈ L1) (hb : x.pl.2.1 = false) (h1 : e1.pl.2.1 = false) (h3 : e3.pl.2.1 = false) (hck : e1.pl.2.2 ≠ e3.pl.2.2) (hn13 : e1.born ≠ e3.born) (hc : ∀ y ∈ L1, y.born < c) :
    (∀ base : En, base.pl = (0, true, x.pl.2.2) → base.n = x.n → Stage e1 e3 (seen.push x.born) c (L1.filter (fun y => decide (y.pl ≠ x.pl)) ++ [base])) ∧ (∀ y ∈ L1, y.pl ≠ (0, true, x.pl.2.2)) ∧ (L1.filter (fun y => decide (y.pl ≠ x.pl))).length = 1 ∧ x ∈ [e1, e3] := by
  have push : ∀ {y : En}, seen.contains y.born = true → (seen.push x.born).contains y.born = true := fun hh => by rw [Array.contains_push, hh]; rfl
  have self : (seen.push x.born).contains x.born = true := by simp
  have two : ∀ {a b : En}, a.pl ≠ b.pl → [a, b].filter (fun y => decide (y.pl ≠ a.pl)) = [b] := fun hh => by
    rw [List.filter_cons_of_neg (by simp), List.filter_cons_of_pos (by simpa using fun e => hh e.symm)]
    rfl
  have two' : ∀ {a b : En}, a.pl ≠ b.pl → [a, b].filter (fun y => decide (y.pl ≠ b.pl)) = [a] := fun hh => by
    rw [List.filter_cons_of_pos (by simpa using hh), List.filter_cons_of_neg (by simp)]
    rfl
  have d13 : e1.pl ≠ e3.pl := fun e => hck (by rw [e])
  have nb : ∀ y ∈ [e1, e3], ∀ k, y.pl ≠ (0, true, k) := fun y hy k e => by
    rcases List.mem_cons.1 hy with hy | hy
    · rw [hy] at e; rw [e] at h1; cases h1
    · rw [List.mem_singleton.1 hy] at e; rw [e] at h3; cases h3
  cases h with
  | none a1 a2 a3 =>
    rcases List.mem_cons.1 hx with rfl | hx
    · rw [two d13]
      exact ⟨fun base hb1 hb2 => .one (.inl ⟨rfl, rfl⟩) hb1 hb2 self (by rw [Array.contains_push, a2]; simpa using fun e => hn13 e.symm) (hc e3 (by simp)), fun y hy => nb y hy _, rfl, by simp⟩
    · have := List.mem_singleton.1 hx
      subst this
      rw [two' d13]
      exact ⟨fun base hb1 hb2 => .one (.inr ⟨rfl, rfl⟩) hb1 hb2 self (by rw [Array.contains_push, a1]; simpa using hn13) (hc e1 (by simp)), fun y hy => nb y hy _, rfl, by simp⟩
  | @one y z bx a1 a2 a3 a4 a5 a6 =>
    have hxz : x = z := by
      rcases List.mem_cons.1 hx with rfl | hx
      · rfl
      · rw [List.mem_singleton.1 hx, a2] at hb; cases hb
    subst hxz
    have dz : x.pl ≠ bx.pl := fun e => by rw [e, a2] at hb; cases hb
    have hyz : y.pl.2.2 ≠ x.pl.2.2 := by
      rcases a1 with ⟨rfl, rfl⟩ | ⟨rfl, rfl⟩
      · exact hck
      · exact fun e => hck e.symm
    rw [two dz]
    refine ⟨fun base hb1 hb2 => .both a1 a2 a3 hb1 hb2 (push a4) self (hc bx (by simp)), fun u hu e => ?_, rfl, ?_⟩
    · rcases List.mem_cons.1 hu with rfl | hu
      · rw [e] at hb; cases hb
      · rw [List.mem_singleton.1 hu, a2] at e
        injection e with _ e
        injection e with _ e
        exact hyz e
    · rcases a1 with ⟨_, rfl⟩ | ⟨_, rfl⟩ <;> simp
  | both a1 a2 a3 a4 a5 a6 a7 a8 =>
    rcases List.mem_cons.1 hx with rfl | hx
    · rw [a2] at hb; cases hb
    · rw [List.mem_singleton.1 hx, a4] at hb; cases hb
theorem stage_mine {e1 e3 x : En} {seen : Array Nat} {last : Nat} {L1 : List En} (h : Stage e1 e3 seen last L1) (hx : x ∈ L1) (h1 : e1.pl.1 = 1 ∧ e1.pl.2.1 = false) (h3 : e3.pl.1 = 1 ∧ e3.pl.2.1 = false) : (x.pl.1 = 1 ∧ x.pl.2.1 = false) ∨ (x.pl.1 = 0 ∧ x.pl.2.1 = true) := by
  cases h with
  | none a1 a2 a3 =>
    rcases List.mem_cons.1 hx with rfl | hx
    · exact .inl h1
    · rw [List.mem_singleton.1 hx]; exact .inl h3
  | one a1 a2 a3 a4 a5 a6 =>
    rcases List.mem_cons.1 hx with rfl | hx
    · rcases a1 with ⟨_, rfl⟩ | ⟨_, rfl⟩ <;> exact .inl (by assumption)
    · rw [List.mem_singleton.1 hx, a2]; exact .inr ⟨rfl, rfl⟩
  | both a1 a2 a3 a4 a5 a6 a7 a8 =>
    rcases List.mem_cons.1 hx with rfl | hx
    · rw [a2]; exact .inr ⟨rfl, rfl⟩
    · rw [List.mem_singleton.1 hx, a4]; exact .inr ⟨rfl, rfl⟩
theorem Reset_ok {w : World} {b r q : Nat} {e1 e3 : En} {V : List Ve} {W G : Nat → Prop} (h : Warm w b r q [e1, e3] V W G) (h1 : e1.pl.1 = 1 ∧ e1.pl.2.1 = false) (h3 : e3.pl.1 = 1 ∧ e3.pl.2.1 = false) :
    Calls Try.prog 10 #[.pointer (some ⟨b, 0, none⟩), .int .u16 1] w (endW (fun v w' => v = .tuple #[] ∧ ∃ bx b2 W', Warm w' b r q [bx, b2] V W' G ∧ Chg W w w' ∧ (∀ k, W k → W' k) ∧ (∀ k, W' k → W k ∨ w.heap.size ≤ k) ∧
      (cont [bx, b2] = [((0, true, e1.pl.2.2), e1.n), ((0, true, e3.pl.2.2), e3.n)] ∨ cont [bx, b2] = [((0, true, e3.pl.2.2), e3.n), ((0, true, e1.pl.2.2), e1.n)])) (fun _ _ => False)) := by
  have hnd1 := h.nd1
  have hnd3 := h.nd3
  simp only [List.map_cons, List.map_nil, List.nodup_cons, List.mem_singleton, List.not_mem_nil, not_false_eq_true, List.nodup_nil, and_true] at hnd1 hnd3
  have hck : e1.pl.2.2 ≠ e3.pl.2.2 := fun e => hnd1 (Prod.ext (by rw [h1.1, h3.1]) (Prod.ext (by rw [h1.2, h3.2]) e))
  refine F10_calls (some ⟨b, 0, none⟩) 1 ?_
  delta F10
  rw [if_neg (by simp)]
  refine Calls.then (Ready_warm h) ?_
  rintro v w1 ⟨rfl, c1, hW1⟩
  refine ⟨_, rfl, ?_⟩
  rw [wSome_some']
  refine ⟨_, rdBk hW1, ?_⟩
  obtain ⟨cl, hm1, hb1⟩ := hW1.sums
  refine range_map map66 hm1 fun w2 hit2 c2 z2 => ?_
  have hW2 := hW1.keep c2 fun _ _ x => x
  have hm2 := c2.blk hm1 (fun x => x)
  have s1 := c1.size
  have s2 := c2.size
  refine ⟨fun _ w3 => ∃ (seen : Array Nat) (last c : Nat) (L1 : List En) (W1 : Nat → Prop), w3.heap[w1.heap.size]? = some (.mapIter (some r) cl seen last) ∧ w3.heap[r]? = some (.map (L1.map En.me).toArray c) ∧ (∀ e ∈ L1, e.born < c) ∧ Warm w3 b r q L1 V W1 G ∧ ¬ W1 w1.heap.size ∧ Chg (fun k => W k ∨ k = w1.heap.size) w2 w3 ∧ (∀ k, W k → W1 k) ∧ (∀ k, W1 k → W k ∨ w1.heap.size ≤ k) ∧ Stage e1 e3 seen last L1,
    fun _ w3 => 10 * ([e1, e3].filter fun e => !(w3.iterSeen w1.heap.size).contains e.born).length + mapLeft w3 w1.heap.size r,
    ⟨(), trivial, #[], cl, cl, [e1, e3], W, hit2, hm2, hb1, hW2, (fun hk => by have := hW1.lt _ (.inl hk); omega), Chg.refl _ _, fun _ x => x, fun _ x => .inl x, .none (by simp) (by simp) (hb1 e1 (by simp))⟩, ?_⟩
  rintro _ w3 ⟨seen, last, c, L1, W1, hit, hm, hbn, hw, hWit, c3, u3, v3, hst⟩ _
  have hrit : r ≠ w1.heap.size := fun e => hWit (e ▸ hw.wr)
  have hold : ∃ x ∈ L1, x.born < last := by
    cases hst with
    | none a1 a2 a3 => exact ⟨e1, by simp, a3⟩
    | one a1 a2 a3 a4 a5 a6 => exact ⟨_, List.mem_cons_self .., a6⟩
    | both a1 a2 a3 a4 a5 a6 a7 a8 => exact ⟨_, List.mem_cons_self .., a8⟩
  obtain ⟨xo, hxo, hxl⟩ := hold
  have he1 := hb1 e1 (by simp)
  have he3 := hb1 e3 (by simp)
  have s3 := c3.size
  refine next_map hit hm (has_old (List.mem_map_of_mem hxo) hxl) (fun hdone w4 heq c4 => ?_) fun e he hse w4 hit4 c4 z4 => ?_
  · refine .inl ⟨rfl, rfl, ?_⟩
    have hdn : ∀ x ∈ L1, seen.contains x.born = false → cl ≤ x.born := fun x hx hs => hdone x.me (by simpa using List.mem_map_of_mem hx) hs
    cases hst with
    | none a1 a2 a3 => have := hdn e1 (by simp) a1; omega
    | @one x y bx a1 a2 a3 a4 a5 a6 =>
      have := hdn y (by simp) a5
      rcases a1 with ⟨_, rfl⟩ | ⟨_, rfl⟩ <;> omega
    | @both x y bx b2 a1 a2 a3 a4 a5 a6 a7 a8 =>
      refine ⟨bx, b2, W1, hw.keep c4 fun _ _ x => x, ?_, u3, fun k hk => (v3 k hk).imp id fun hk => by omega, ?_⟩
      · exact (((c1.trans c2).mono fun _ _ x => x.elim).trans2 c3 fun k hk e => e.elim id fun e => by omega).trans (c4.mono fun _ _ x => x.elim)
      · rcases a1 with ⟨rfl, rfl⟩ | ⟨rfl, rfl⟩
        · left; simp [cont, a2, a3, a4, a5]
        · right; simp [cont, a2, a3, a4, a5]
  · refine .inr ⟨_, _, rfl, ?_⟩
    rw [List.toList_toArray] at he
    obtain ⟨x, hx, rfl⟩ := List.mem_map.1 he
    have hse' : seen.contains x.born = false := hse
    have hm4 := c4.blk hm (fun e => hrit e)
    have hw4 := hw.keep c4 fun k hk e => by
      have e' : k = w1.heap.size := e
      subst e'
      rcases hk with hk | hk
      · exact hWit hk
      · have := hW1.lt w1.heap.size (.inr hk); omega
    refine entry_map hit4 hm4 (by simpa using List.mem_map_of_mem (f := En.me) hx) (by simpa [List.map_map, Function.comp_def, En.me] using hw.nd3) ?_
    refine agg3 (p := x.pl) (k := some ⟨x.blk, 0, none⟩) ?_
    have ca := chg_alloc w4 (.cells #[.int .u16 0, .bool false, .int .u64 0] 71) NoS
    refine setPl (p := x.pl) (blk_alloc w4 (.cells #[.int .u16 0, .bool false, .int .u64 0] 71)) rfl fun w5 b5 c5 z5 => ?_
    have c45 : Chg NoS w4 w5 := ca.trans2 c5 fun k hk e => by have : k = w4.heap.size := e; omega
    have hm5 := c45.blk hm4 (fun x => x)
    have hw5 := hw4.keep c45 fun _ _ x => x
    have hit5 := c45.blk hit4 (fun x => x)
    have c25 : Chg (fun k => W k ∨ k = w1.heap.size) w2 w5 := (c3.trans2 c4 fun k hk e => .inr e).trans (c45.mono fun _ _ x => x.elim)
    have s4 := c4.size
    have s45 := c45.size
    have hit5 : w5.heap[w1.heap.size]? = some (.mapIter (some r) cl (seen.push x.born) c) := hit5
    refine ⟨_, (rdPl 0 b5).trans rfl, ?_⟩
    -- an entry of the base is passed by
    have pass : x.pl.2.1 = true → Stage e1 e3 (seen.push x.born) c L1 → ∃ s' : Unit, True ∧ (∃ (seen : Array Nat) (last c : Nat) (L1 : List En) (W1 : Nat → Prop), w5.heap[w1.heap.size]? = some (.mapIter (some r) cl seen last) ∧ w5.heap[r]? = some (.map (L1.map En.me).toArray c) ∧ (∀ e ∈ L1, e.born < c) ∧ Warm w5 b r q L1 V W1 G ∧ ¬ W1 w1.heap.size ∧ Chg (fun k => W k ∨ k = w1.heap.size) w2 w5 ∧ (∀ k, W k → W1 k) ∧ (∀ k, W1 k → W k ∨ w1.heap.size ≤ k) ∧ Stage e1 e3 seen last L1) ∧
        10 * ([e1, e3].filter fun e => !(w5.iterSeen w1.heap.size).contains e.born).length + mapLeft w5 w1.heap.size r < 10 * ([e1, e3].filter fun e => !(w3.iterSeen w1.heap.size).contains e.born).length + mapLeft w3 w1.heap.size r := fun _ hst' => by
      refine ⟨(), trivial, ⟨seen.push x.born, c, c, L1, W1, hit5, hm5, hbn, hw5, hWit, c25, u3, v3, hst'⟩, ?_⟩
      rw [iterSeen_eq hit5, iterSeen_eq hit, mapLeft_eq hm5 hit5, mapLeft_eq hm hit]
      have k1 := left_less hx hse'
      have k2 := left_more (L := [e1, e3]) (seen := seen) x.born
      omega
    rcases stage_mine hst hx h1 h3 with ⟨hs, hb⟩ | ⟨hs, hb⟩
    rotate_left
    · rw [if_neg (by simp [hs])]
      exact pass hb (stage_pass hst hx hb h1.2 h3.2 hw.nd3 hbn)
    rw [if_pos (by simp [hs])]
    refine ⟨_, (rdPl 1 b5).trans rfl, ?_⟩
    rw [if_pos (by simp [hb]), wSome_some']
    have cd := chg_drew w5 NoS
    have bd := cd.blk b5 (fun x => x)
    have hmd := cd.blk hm5 (fun x => x)
    have hwd := hw5.keep cd fun _ _ x => x
    have hitd := cd.blk hit5 (fun x => x)
    have c2d : Chg (fun k => W k ∨ k = w1.heap.size) w2 w5.drew := c25.trans (cd.mono fun _ _ x => x.elim)
    generalize w5.drew = w6 at *
    have sbd := lt_of_blk bd
    obtain ⟨m1, m2, m3, m4⟩ := stage_move hst hx hb h1.2 h3.2 hck hnd3 hbn
    have hxp := (hw.ent x hx).1
    have hxn := (hw.ent x hx).2.2.1
    have hxb := (hwd.ent x hx)
    refine ⟨_, rdBk hwd, _, (rdPl 0 bd).trans rfl, _, (rdPl 1 bd).trans rfl, _, (rdPl 2 bd).trans rfl, ?_⟩
    refine Move_ok hwd hx m2 hmd hbn fun w7 hw7 hs7 c7 => ?_
    have b7 := c7.blk bd (fun e => by
      have e' : w4.heap.size = r := e
      have := hw.lt r (.inl hw.wr)
      omega)
    have hit7 := c7.blk hitd (fun e => hrit (Eq.symm e))
    have ce := chg_drew w7 NoS
    have b8 := ce.blk b7 (fun x => x)
    have hw8 := hw7.keep ce fun _ _ x => x
    have hit8 := ce.blk hit7 (fun x => x)
    have hs8 := hs7.keep ce fun x => x
    have z7 := c7.size
    have z8 := ce.size
    have sz2d := c2d.size
    generalize w7.drew = w8 at *
    rw [wSome_some']
    refine ⟨_, (rdPl 2 b8).trans rfl, ?_⟩
    refine Base_ok hw8 ⟨hxp.2.2.1, hxp.2.2.2⟩ (fun y hy => m2 y (List.mem_filter.1 hy).1) hs8 hxn hxb.2.2.2.2.2.1 (lt_of_blk hs8) fun w9 base W9 hbp hbn9 h9 c9 u9 v9 => ?_
    have hit9 := c9.blk hit8 hWit
    obtain ⟨c', hm9, hb9⟩ := h9.sums
    have hr2 : r < w2.heap.size := Nat.lt_of_lt_of_le (hW1.lt r (.inl hW1.wr)) c2.size
    have hWr : W r := h.wr
    refine ⟨(), trivial, ⟨seen.push x.born, c, c', _, W9, hit9, hm9, hb9, h9, fun hh => ?_, ?_, fun k hk => u9 k (u3 k hk), fun k hk => ?_, m1 base hbp hbn9⟩, ?_⟩
    · rcases v9 _ hh with hh | hh
      · exact hWit hh
      · have := lt_of_blk hit8; omega
    · exact ((c2d.trans2 c7 fun k hk e => by have e' : k = r := e; subst e'; exact .inl hWr).trans (ce.mono fun _ _ x => x.elim)).trans2 c9 fun k hk e => (v3 k e).imp id fun hh => by
        rcases Nat.lt_or_ge w1.heap.size k with h' | h'
        · omega
        · omega
    · rcases v9 k hk with hh | hh
      · exact v3 k hh
      · exact .inr (by have := lt_of_blk hit8; omega)
    · dsimp only
      rw [iterSeen_eq hit9, iterSeen_eq hit, mapLeft_eq hm9 hit9, mapLeft_eq hm hit]
      have k1 := left_less (L := [e1, e3]) m4 hse'
      have k2 := List.length_filter_le (fun y : En => !(seen.push x.born).contains y.born) (L1.filter (fun y => decide (y.pl ≠ x.pl)) ++ [base])
      rw [List.length_append, m3] at k2
      simp only [List.length_singleton] at k2
      omega
end Go.Proofs.Ytaomfaehgbgdgaa.B
