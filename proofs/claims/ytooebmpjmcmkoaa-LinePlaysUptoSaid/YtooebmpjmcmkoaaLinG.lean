/-
  line: read.
-/
import Derived.Test.YtooebmpjmcmkoaaLinF
set_option maxRecDepth 100000
set_option linter.unusedVariables false
set_option linter.unusedSimpArgs false
namespace Go.Proofs.Ytooebmpjmcmkoaa.B
open Go Go.Proofs Go.Proofs.YtooebmpjmcmkoaaEng

theorem enter43 (l : Array Value) (w : World) : (callFunc 43 l).run Try.prog w = .ok (.enter 43 l) w := by
  simp [go_sem]
theorem leave_idle {p : Addr} {rs : List RS} {R : Value → World → Prop} {E : PanW} {w : World} (h : resV Try.prog rs w fun l => R (oneOrTuple l) w) : leaveW Try.prog rs R E [(43, [.pointer (some p)])] .returning w := by
  refine ⟨by simp, fun w => enter43 _ w, ?_⟩
  refine (catch_idle p w).mono ?_
  rintro e u' w' ⟨rfl, rfl, rfl⟩
  exact h
theorem leave_short {p : Addr} {x : Value} {rs : List RS} {R : Value → World → Prop} {E : PanW} {w : World} (hc : w.cell? p = some x) (hz : w.frozen? p = false) (hlt : p.block < w.heap.size)
    (h : resV Try.prog rs ((w.alloc (.cells #[] 70)).setCell p (.int .i64 70)) fun l => R (oneOrTuple l) ((w.alloc (.cells #[] 70)).setCell p (.int .i64 70))) :
    leaveW Try.prog rs R E [(43, [.pointer (some p)])] (.panicking [{ v := .iface 70 (.agg #[]), recovered := false }]) w := by
  refine ⟨by simp, fun w => enter43 _ w, ?_⟩
  refine (catch_short p x w hc hz hlt).mono ?_
  rintro e u' w' ⟨rfl, rfl, rfl⟩
  exact h
theorem Calls.gave {f : Nat} {args : Array Value} {w : World} {K : Value → World → Prop} {E : PanW} (h : Calls Try.prog f args w (endW (fun _ _ => False) (Gave w))) (hE : E [{ v := .iface 70 (.agg #[]), recovered := false }] w) : Calls Try.prog f args w (endW K E) := by
  refine h.mono ?_
  intro e w' he
  cases e with
  | returned v => exact he.elim
  | panicked c => obtain ⟨rfl, rfl⟩ := he; exact hE
  | outgrown => exact he

def msgs : Nat → List UInt8 → Option (List (List UInt8))
  | 0, bs => if bs = [] then some [] else none
  | n + 1, bs => if bs.length < 2 then none else if 8192 < un (bs.take 2) then none else if (bs.drop 2).length < un (bs.take 2) then none
    else (msgs n ((bs.drop 2).drop (un (bs.take 2)))).map fun l => (bs.drop 2).take (un (bs.take 2)) :: l
structure Dgm where
  ep : Nat
  come : Nat
  first : Nat
  ls : List (List UInt8)
def parse (bs : List UInt8) : Option Dgm := if 32 < un ((bs.drop 12).take 2) then none else (msgs (un ((bs.drop 12).take 2)) (bs.drop 14)).map fun l => ⟨un (bs.take 4), un ((bs.drop 4).take 4), un ((bs.drop 8).take 4), l⟩

def ReadEnd (w : World) (X : Nat → Prop) (bs : List UInt8) (v : Value) (w' : World) : Prop := Chg NoS w w' ∧ ∃ x y z a n c e, v = .tuple #[.int .u32 x, .int .u32 y, .int .u32 z, .slice a n c, .int .i64 e] ∧
  if bs.length < 14 then e = 51 else match parse bs with
  | none => e = 70
  | some d => e = 0 ∧ x = d.ep ∧ y = d.come ∧ z = d.first ∧ n = d.ls.length ∧ ∃ vs, OwnT w' 31 (.slice a n c) n vs ∧ BRows w' X vs d.ls ∧ ∀ k, tBlk (.slice a n c) k → w.heap.size ≤ k

/-- what stands while read goes on -/
structure Rd (w w1 : World) (X : Nat → Prop) (e q : Nat) (rest : List UInt8) : Prop where
  he : w1.heap[e]? = some (.cells #[.int .i64 0] 40 (0, 0))
  cur : CurAt w1 X q rest
  ch : Chg NoS w w1
  eq : w.heap.size ≤ e
  qq : w.heap.size ≤ q
theorem load40 (A : Addr) (w : World) (K : Value → Prop) : loadW Try.prog 40 (.pointer (some A)) w K = ∃ x, w.cell? A = some (.int .i64 x) ∧ K (.int .i64 x) := by kernel_rfl

/-- an error is laid, and read returns -/
theorem Rd.err {w w1 : World} {X Y : Nat → Prop} {e q : Nat} {rest bs : List UInt8} {x y z : Int} {a : Option Addr} {n c : Nat} {R : Value → World → Prop} {E : PanW} (h : Rd w w1 X e q rest) (hn : ¬ bs.length < 14) (hp : parse bs = none)
    (hR : ∀ v w', ReadEnd w Y bs v w' → R v w') :
    setW w1 ⟨e, 0, none⟩ (.int .i64 70) fun w2 => leaveW Try.prog [.val (.int .u32 x), .val (.int .u32 y), .val (.int .u32 z), .val (.slice a n c), .cell (.pointer (some ⟨e, 0, none⟩)) 40] R E [(43, [.pointer (some ⟨e, 0, none⟩)])] .returning w2 := by
  refine setW_blk h.he (by simp) rfl ?_
  intro w2 hb hc hz
  refine leave_idle ?_
  unfold resV resV resV resV resV
  rw [load40]
  refine ⟨70, by rw [cell_blk hb]; rfl, ?_⟩
  refine hR _ _ ⟨h.ch.trans2 hc fun k hk e => ?_, x, y, z, a, n, c, 70, rfl, ?_⟩
  · have := h.eq; have : k = _ := e; omega
  · rw [if_neg hn, hp]
theorem Rd.short {w w1 : World} {X Y : Nat → Prop} {e q : Nat} {rest bs : List UInt8} {x y z : Int} {a : Option Addr} {n c : Nat} {R : Value → World → Prop} {E : PanW} (h : Rd w w1 X e q rest) (hn : ¬ bs.length < 14) (hp : parse bs = none)
    (hR : ∀ v w', ReadEnd w Y bs v w' → R v w') :
    leaveW Try.prog [.val (.int .u32 x), .val (.int .u32 y), .val (.int .u32 z), .val (.slice a n c), .cell (.pointer (some ⟨e, 0, none⟩)) 40] R E [(43, [.pointer (some ⟨e, 0, none⟩)])] (.panicking [{ v := .iface 70 (.agg #[]), recovered := false }]) w1 := by
  refine leave_short (x := .int .i64 0) (by rw [cell_blk h.he]; rfl) (frozen_blk h.he 0 none) (lt_of_blk h.he) ?_
  have hb : (w1.alloc (.cells #[] 70)).heap[e]? = some (.cells #[.int .i64 0] 40 (0, 0)) := (chg_alloc w1 (.cells #[] 70) NoS).blk h.he (fun h => h)
  have hb2 := blk_setCell hb 0 (.int .i64 70)
  have hc : Chg NoS w ((w1.alloc (.cells #[] 70)).setCell ⟨e, 0, none⟩ (.int .i64 70)) := (h.ch.trans (chg_alloc _ _ _)).trans2 (chg_setCell _ e 0 _) fun k hk e' => by
    have := h.eq; have : k = _ := e'; omega
  unfold resV resV resV resV resV
  rw [load40]
  refine ⟨70, by rw [cell_blk hb2]; rfl, ?_⟩
  refine hR _ _ ⟨hc, x, y, z, a, n, c, 70, rfl, ?_⟩
  rw [if_neg hn, hp]

theorem Rd.step {w w1 w2 : World} {X : Nat → Prop} {e q : Nat} {rest rest' : List UInt8} (h : Rd w w1 X e q rest) (hcur : CurAt w2 X q rest') (hc : Chg (OnlyB q) w1 w2) : Rd w w2 X e q rest' where
  he := hc.blk h.he fun e' => by
    obtain ⟨v, hb, _⟩ := h.cur
    rw [← show e = q from e', h.he] at hb
    injection hb with hb
    injection hb with _ hb
    cases hb
  cur := hcur
  ch := h.ch.trans2 hc fun k hk e' => by have := h.qq; have : k = q := e'; omega
  eq := h.eq
  qq := h.qq
theorem Rd.push {w w1 w2 : World} {X : Nat → Prop} {e q : Nat} {rest : List UInt8} {v : Value} {n : Nat} {vs : List Value} (h : Rd w w1 X e q rest) (ho : OwnT w1 31 v n vs) (hx : ∀ k, tBlk v k → X k ∧ w.heap.size ≤ k) (hc : Chg (tBlk v) w1 w2) : Rd w w2 X e q rest where
  he := hc.blk h.he (ho.ne h.he (by decide))
  cur := by
    obtain ⟨u, hb, hr, hq⟩ := h.cur
    exact ⟨u, hc.blk hb (ho.ne hb (by decide)), hr.chg hc fun k _ hk => (hx k hk).1, hq⟩
  ch := h.ch.trans2 hc fun k hk e' => by have := (hx k e').2; omega
  eq := h.eq
  qq := h.qq
theorem msgs_bad {n : Nat} {bs : List UInt8} (h : bs.length < 2 ∨ 8192 < un (bs.take 2) ∨ (bs.drop 2).length < un (bs.take 2)) : msgs (n + 1) bs = none := by
  unfold msgs
  by_cases h1 : bs.length < 2
  · rw [if_pos h1]
  rw [if_neg h1]
  by_cases h2 : 8192 < un (bs.take 2)
  · rw [if_pos h2]
  rw [if_neg h2]
  rcases h with h | h | h
  · exact absurd h h1
  · exact absurd h h2
  · rw [if_pos h]
theorem parse_bad {bs : List UInt8} (h : 32 < un ((bs.drop 12).take 2) ∨ msgs (un ((bs.drop 12).take 2)) (bs.drop 14) = none) : parse bs = none := by
  unfold parse
  rcases h with h | h
  · rw [if_pos h]
  · split
    · rfl
    · rw [h]; rfl

theorem read_ok {w : World} {X : Nat → Prop} {a : Option Addr} {n c : Nat} {bs : List UInt8} (hrow : RowIn w X (.slice a n c) bs) (hX : ∀ k, X k → k < w.heap.size) (hl : bs.length ≤ 1099511627776) :
    Calls Try.prog 33 #[.slice a n c] w (endW (ReadEnd w X bs) (fun _ _ => False)) := by
  have hn : bs.length = n := (RowIn.rd hrow).2.1
  refine F33_calls _ _ _ ?_
  delta F33
  by_cases h14 : bs.length < 14
  · rw [if_pos (by simp; omega)]
    refine setW_blk (blk_alloc w _) (by simp) rfl ?_
    intro w2 hb hc hz
    unfold leaveW resV resV resV resV resV
    rw [load40]
    refine ⟨51, by rw [cell_blk hb]; rfl, (chg_alloc w _ NoS).trans2 hc fun k hk e => by have : k = _ := e; omega, 0, 0, 0, none, 0, 0, 51, rfl, ?_⟩
    rw [if_pos h14]
  rw [if_neg (by simp; omega)]
  have hsa := size_alloc w (.cells #[.int .i64 0] 40)
  have hba := blk_alloc w (.cells #[.int .i64 0] 40)
  have hca := chg_alloc w (.cells #[.int .i64 0] 40) NoS
  generalize hwa : w.alloc (.cells #[.int .i64 0] 40) = wa at hsa hba hca ⊢
  have hsb := size_alloc wa (.cells #[.slice a n c] 73)
  have hbb := blk_alloc wa (.cells #[.slice a n c] 73)
  have hcb := chg_alloc wa (.cells #[.slice a n c] 73) NoS
  generalize hwb : wa.alloc (.cells #[.slice a n c] 73) = wb at hsb hbb hcb ⊢
  generalize hq : wa.heap.size = q at hsb hbb ⊢
  generalize he : w.heap.size = e at hsa hba ⊢
  have hX' : ∀ k, k < w.heap.size → orX X (fun k => w.heap.size ≤ k) k → X k := fun k hk hx => hx.elim id fun h => by omega
  have hrow' : RowIn w (orX X (fun k => w.heap.size ≤ k)) (.slice a n c) bs := hrow.wide hX'
  have h0 : Rd w wb (orX X (fun k => w.heap.size ≤ k)) e q bs :=
    ⟨hcb.blk hba (fun h => h), ⟨_, hbb, (hrow'.chg hca fun k _ h => h.elim).chg hcb fun k _ h => h.elim, .inr (by omega)⟩, hca.trans hcb, by omega, by omega⟩
  generalize hXX : orX X (fun k => w.heap.size ≤ k) = X' at h0 hrow' hX'
  have hXn : ∀ k, w.heap.size ≤ k → X' k := fun k hk => by rw [← hXX]; exact .inr hk
  refine Calls.then (cnumber_ok (k := 4) h0.cur (by omega) (by omega)) ?_
  rintro v w1 ⟨rfl, hcur1, hc1, hz1⟩
  have h1 := h0.step hcur1 hc1
  refine ⟨_, rfl, ?_⟩
  refine Calls.then (cnumber_ok (k := 4) h1.cur (by simp; omega) (by omega)) ?_
  rintro v w2 ⟨rfl, hcur2, hc2, hz2⟩
  have h2 := h1.step hcur2 hc2
  refine ⟨_, rfl, ?_⟩
  refine Calls.then (cnumber_ok (k := 4) h2.cur (by simp; omega) (by omega)) ?_
  rintro v w3 ⟨rfl, hcur3, hc3, hz3⟩
  have h3 := h2.step hcur3 hc3
  refine ⟨_, rfl, ?_⟩
  refine Calls.then (cnumber_ok (k := 2) h3.cur (by simp; omega) (by omega)) ?_
  rintro v w4 ⟨rfl, hcur4, hc4, hz4⟩
  have h4 := h3.step hcur4 hc4
  refine ⟨_, rfl, ?_⟩
  simp only [List.drop_drop, Nat.reduceAdd] at h4 ⊢
  generalize hN : un ((bs.drop 12).take 2) = N
  by_cases h32 : 32 < N
  · rw [if_pos (by simp; omega)]
    exact h4.err h14 (parse_bad (.inl (by omega))) fun v w' h => h
  rw [if_neg (by simp; omega)]
  refine ⟨fun s w' => ∃ (i c : Nat) (a : Option Addr) (rest : List UInt8) (done : List (List UInt8)) (vs : List Value), s = ((un (bs.take 4) : Int), (un ((bs.drop 4).take 4) : Int), (un ((bs.drop 8).take 4) : Int), a, i, c, (i : Int)) ∧ i ≤ N ∧ done.length = i ∧ Rd w w' X' e q rest ∧
      OwnT w' 31 (.slice a i c) i vs ∧ BRows w' X' vs done ∧ (∀ k, tBlk (.slice a i c) k → w.heap.size ≤ k) ∧ msgs N (bs.drop 14) = (msgs (N - i) rest).map (done ++ ·) ∧ rest.length ≤ bs.length,
    fun s _ => (32 - s.2.2.2.2.2.2).toNat, ⟨(_, _, _, none, 0, 0, 0), ⟨rfl, rfl, rfl, rfl, rfl, trivial⟩, 0, 0, none, bs.drop 14, [], [], rfl, by omega, rfl, h4, OwnT.nil _ _, trivial, fun k hk => hk.elim, by simp, by simp⟩, ?_⟩
  rintro s w5 ⟨i, c5, a5, rest, done, vs, rfl, hi, hdl, h5, ho5, hr5, hb5, hm5, hrl⟩ _
  dsimp only
  by_cases hlt : i < N
  · rw [if_pos (by simp; omega)]
    obtain ⟨f, hf⟩ : ∃ f, N - i = f + 1 := ⟨N - i - 1, by omega⟩
    rw [hf] at hm5
    have hnone : msgs (f + 1) rest = none → parse bs = none := fun h => parse_bad (.inr (by rw [hN, hm5, h]; rfl))
    by_cases hs2 : rest.length < 2
    · refine Calls.gave (cnumber_short (k := 2) h5.cur hs2) ?_
      exact h5.short h14 (hnone (msgs_bad (.inl hs2))) fun v w' h => h
    refine Calls.then (cnumber_ok (k := 2) h5.cur (by omega) (by omega)) ?_
    rintro v w6 ⟨rfl, hcur6, hc6, hz6⟩
    have h6 := h5.step hcur6 hc6
    have hnq : ¬ tBlk (.slice a5 i c5) q := by
      obtain ⟨u, hb, _⟩ := h5.cur
      exact ho5.ne hb (by decide)
    have ho6 := ho5.chg hc6 fun k hk e => hnq (by rw [show k = q from e] at hk; exact hk)
    have hr6 := hr5.chg hc6 fun k _ e => by rw [show k = q from e]; exact hXn q h5.qq
    refine ⟨_, rfl, ?_⟩
    by_cases h8 : 8192 < un (rest.take 2)
    · rw [if_pos (by simp; omega)]
      exact h6.err h14 (hnone (msgs_bad (.inr (.inl h8)))) fun v w' h => h
    rw [if_neg (by simp; omega)]
    rw [i64w (un (rest.take 2) : Int) (by omega) (by omega)]
    by_cases hs3 : (rest.drop 2).length < un (rest.take 2)
    · refine Calls.gave (take_short (k := un (rest.take 2)) h6.cur hs3) ?_
      exact h6.short h14 (hnone (msgs_bad (.inr (.inr hs3)))) fun v w' h => h
    refine Calls.then (take_ok (k := un (rest.take 2)) h6.cur (by omega)) ?_
    rintro v w7 ⟨hrow7, hcur7, hc7, hz7⟩
    have h7 := h6.step hcur7 hc7
    have ho7 := ho6.chg hc7 fun k hk e => hnq (by rw [show k = q from e] at hk; exact hk)
    have hr7 := hr6.chg hc7 fun k _ e => by rw [show k = q from e]; exact hXn q h5.qq
    obtain ⟨a7, c7, rfl, _⟩ := id hrow7
    refine ⟨_, _, _, rfl, ?_⟩
    refine push_row ho7 hr7 (by omega) (Chg.refl _ _) hrow7 (fun k hk => hXn k (hb5 k hk)) ?_
    intro a8 c8 w8 ho8 hr8 hc8 hb8 hz8
    have h8' := h7.push ho7 (fun k hk => ⟨hXn k (hb5 k hk), hb5 k hk⟩) hc8
    refine ⟨_, _, _, rfl, trivial, (_, _, _, a8, i + 1, c8, ((i + 1 : Nat) : Int)), ⟨rfl, rfl, rfl, rfl, ?_, trivial⟩, ⟨i + 1, c8, a8, _, _, _, rfl, by omega, ?_, h8', ho8, hr8.wide fun k _ hk => .inl hk, ?_, ?_, ?_⟩, by dsimp only; omega⟩
    · rw [IntWalk.u32_in _ (by omega)]; rfl
    · rw [List.length_append, hdl]; rfl
    · intro k hk
      rcases hb8 k hk with h | h
      · exact hb5 k h
      · have := h7.ch.size; omega
    · rw [hm5, show N - (i + 1) = f from by omega]
      conv => lhs; unfold msgs
      rw [if_neg hs2, if_neg h8, if_neg hs3]
      simp [Option.map_map, Function.comp_def]
    · simp; omega
  · rw [if_neg (by simp; omega)]
    have : i = N := by omega
    subst this
    rw [Nat.sub_self] at hm5
    obtain ⟨u, hb, hru, hxu⟩ := h5.cur
    obtain ⟨au, cu, rfl, _⟩ := id hru
    refine ⟨_, _, _, by rw [addK_lit, cell_blk hb]; rfl, ?_⟩
    by_cases hr0 : rest = []
    · subst hr0
      rw [if_neg (by simp)]
      refine setW_blk h5.he (by simp) rfl ?_
      intro w6 hb6 hc6 hz6
      refine leave_idle ?_
      unfold resV resV resV resV resV
      rw [load40]
      have hp : parse bs = some ⟨un (bs.take 4), un ((bs.drop 4).take 4), un ((bs.drop 8).take 4), done⟩ := by
        unfold parse
        rw [hN, if_neg h32, hm5]
        simp [msgs]
      refine ⟨0, by rw [cell_blk hb6]; rfl, h5.ch.trans2 hc6 fun k hk e' => by have := h5.eq; have : k = _ := e'; omega, _, _, _, _, _, _, 0, rfl, ?_⟩
      rw [if_neg h14, hp]
      refine ⟨rfl, rfl, rfl, rfl, hdl.symm, vs, ?_, ?_, hb5⟩
      · exact ho5.chg hc6 fun k hk e' => ho5.ne h5.he (by decide) (by rw [show k = _ from e'] at hk; exact hk)
      · refine (hr5.chg hc6 fun k _ e' => hXn k (by have := h5.eq; have : k = _ := e'; omega)).wide fun k _ hk => by rw [← hXX]; exact .inl hk
    · rw [if_pos (by have := List.length_pos_iff.2 hr0; simp; omega)]
      refine h5.err h14 (parse_bad (.inr ?_)) fun v w' h => h
      rw [hN, hm5]
      simp [msgs, hr0]
end Go.Proofs.Ytooebmpjmcmkoaa.B
