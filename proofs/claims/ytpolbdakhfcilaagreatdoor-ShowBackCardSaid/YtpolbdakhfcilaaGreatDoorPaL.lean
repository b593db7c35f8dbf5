/-
  parse: atom; all levels.
-/
import Derived.Test.YtpolbdakhfcilaaGreatDoorPaF
import Derived.Test.YtpolbdakhfcilaaGreatDoorBF
set_option maxRecDepth 100000
set_option linter.unusedVariables false
set_option linter.unusedSimpArgs false
namespace Go.Proofs.YtpolbdakhfcilaaGreatDoor.B
open Go Go.Proofs Go.Proofs.YtpolbdakhfcilaaGreatDoorEng Go.RowKit

theorem of1_ok {w : World} {S : Nat → Prop} {g : Nat} {u : V4} {t : Tm} {op : Int} (hop : 0 ≤ op ∧ op ≤ 127) (hb : w.heap[g]? = some (.cells #[.int .i8 u.op, .int .i8 u.f, .int .u64 u.n, .slice u.b u.m u.c] 26 (0, 0))) (hu : u.own w S t) (hg : S g) :
    Calls Tryz.prog 91 #[.int .i8 op, .slice (some ⟨g, 0, none⟩) 1 1] w (endW (fun v w' => ∃ r : V4, v = .agg (V4.arr r) ∧ r.own w' S (.mk op 0 0 [t]) ∧ Chg NoS w w') (fun _ _ => False)) :=
  Calls.then (of_ok w op _ 1 1) fun v w' h => ⟨_, h.1, (own_one hop hb hu hg).keepN h.2, h.2⟩
theorem of2_ok {w : World} {S : Nat → Prop} {g : Nat} {u v : V4} {t s : Tm} {op : Int} (hop : 0 ≤ op ∧ op ≤ 127) (hb : w.heap[g]? = some (.cells #[.int .i8 u.op, .int .i8 u.f, .int .u64 u.n, .slice u.b u.m u.c, .int .i8 v.op, .int .i8 v.f, .int .u64 v.n, .slice v.b v.m v.c] 26 (0, 0))) (hu : u.own w S t) (hv : v.own w S s) (hg : S g) :
    Calls Tryz.prog 91 #[.int .i8 op, .slice (some ⟨g, 0, none⟩) 2 2] w (endW (fun x w' => ∃ r : V4, x = .agg (V4.arr r) ∧ r.own w' S (.mk op 0 0 [t, s]) ∧ Chg NoS w w') (fun _ _ => False)) :=
  Calls.then (of_ok w op _ 2 2) fun x w' h => ⟨_, h.1, (own_two hop hb hu hv hg).keepN h.2, h.2⟩
theorem kept_put {w wb w1 w8 : World} {q : Rp} (cb : Chg (OnlyB q.b) wb w1) (c8 : Chg (OnlyB w.heap.size) w1 w8) (h : True) : Kept (fun k => k = q.b ∨ k = w.heap.size) wb w8 :=
  ⟨Nat.le_trans cb.size c8.size, fun b hb hs => (c8.block b (Nat.lt_of_lt_of_le hb cb.size) (fun e => hs (.inr e))).trans (cb.block b hb (fun e => hs (.inl e)))⟩

theorem atom_ok {q : Rp} {ws : List Wd} {i : Nat} (hpred : PaAt q ws 51 (.row .pred) (i + 1)) (hpol : ∀ i', i + 1 ≤ i' → PaAt q ws 23 (.row .pol) i') : PaAt q ws 90 .atom i := by
  intro w h
  refine F90_calls _ ?_
  delta F90
  have c0 : Chg NoS w (w.alloc (.cells #[.int .i8 0, .int .i8 0, .int .u64 0, .slice none 0 0] 26)) := chg_alloc w _ _
  have b0 : (w.alloc (.cells #[.int .i8 0, .int .i8 0, .int .u64 0, .slice none 0 0] 26)).heap[w.heap.size]? = some (.cells [.int .i8 0, .int .i8 0, .int .u64 0, .slice none 0 0].toArray 26 (0, 0)) := blk_alloc w _
  have z0 : (w.alloc (.cells #[.int .i8 0, .int .i8 0, .int .u64 0, .slice none 0 0] 26)).heap.size = w.heap.size + 1 := size_alloc w _
  generalize (w.alloc (.cells #[.int .i8 0, .int .i8 0, .int .u64 0, .slice none 0 0] 26)) = w0 at c0 b0 z0 ⊢
  have h0 := h.keep c0
  have hqb := lt_of_blk h.blk
  have hbl : w.heap.size ≠ q.b := by omega
  refine Calls.then (take_ok h0 1 [102, 105, 108, 116, 101, 114] (by omega)) ?_
  rintro v w1 ⟨rfl, h1, c1⟩
  have cB1 := (toB c0 (OnlyB q.b)).trans c1
  have b1 := c1.blk b0 hbl
  have s1 := c1.size
  refine ⟨_, rfl, ?_⟩
  cases hw1 : isW ws i 1 [102, 105, 108, 116, 101, 114] with
  | true =>
    rw [hw1, if_pos rfl] at h1
    rw [if_pos rfl]
    refine Calls.thenP (hpred w1 h1) ?_ fun c w' hb => BadP.from hb cB1 fun j hj => Pa.one (by simp) hj fun f hf => by rw [pa, if_pos hw1, hf]; rfl
    rintro v w2 ⟨t, j, u, hP, rfl, hu, h2, c2⟩
    have cB2 := cB1.trans c2
    have b2 := c2.blk b1 hbl
    have s2 := c2.size
    refine agg4 ?_
    have ca := chg_alloc w2 (.cells #[.int .i8 u.op, .int .i8 u.f, .int .u64 u.n, .slice u.b u.m u.c] 26) NoS
    have ba := blk_alloc w2 (.cells #[.int .i8 u.op, .int .i8 u.f, .int .u64 u.n, .slice u.b u.m u.c] 26)
    generalize w2.alloc (.cells #[.int .i8 u.op, .int .i8 u.f, .int .u64 u.n, .slice u.b u.m u.c] 26) = w3 at ca ba ⊢
    refine Calls.then (of1_ok (S := fun k => w0.heap.size ≤ k) (op := 6) (by omega) ba ((hu.keepN ca).mono fun b hb => by omega) (by omega)) ?_
    rintro _ w4 ⟨r, rfl, hr, c4⟩
    have c24 := ca.trans c4
    refine agg4 ?_
    refine (putR (vs := [.int .i8 r.op, .int .i8 r.f, .int .u64 r.n, .slice r.b r.m r.c]) (c24.blk b2 (fun x => x)) (cB2.trans (toB c24 _)) (Nat.le_refl _) rfl (by simp [oneC]) fun w8 b8 cB8 c8 => ?_ : setsW _ _ _ _ _)
    refine ⟨_, get_blk b8 0 _ rfl, _, get_blk b8 1 _ rfl, _, get_blk b8 2 _ rfl, _, _, _, get_blk b8 3 _ rfl, ?_⟩
    exact fin_ret (S := fun k => w0.heap.size ≤ k) h hr (fun k hk => by omega) (h2.keep c24) cB8 c8 (Pa.one (by simp) hP fun f hf => by rw [pa, if_pos hw1, hf]; rfl)
  | false =>
  rw [hw1, if_neg (by simp)] at h1
  rw [if_neg (by simp)]
  have n1 : ¬ isW ws i 1 [102, 105, 108, 116, 101, 114] = true := by simp [hw1]
  refine Calls.then (take_ok h1 1 [105, 100] (by omega)) ?_
  rintro v w2 ⟨rfl, h2, c2⟩
  have cB2 := cB1.trans c2
  have b2 := c2.blk b1 hbl
  have s2 := c2.size
  refine ⟨_, rfl, ?_⟩
  cases hw2 : isW ws i 1 [105, 100] with
  | true =>
    rw [hw2, if_pos rfl] at h2
    rw [if_pos rfl]
    refine Calls.then (of_ok w2 1 _ 0 0) ?_
    rintro _ w3' ⟨rfl, c3'⟩
    obtain ⟨u, hu0, hu⟩ : ∃ u : V4, u = ⟨1, 0, 0, none, 0, 0⟩ ∧ u.own w3' (fun k => w0.heap.size ≤ k) (bareS 1) := ⟨_, rfl, own_bare w3' _ (by omega)⟩
    rw [← hu0]
    refine agg4 ?_
    have ca := chg_alloc w3' (.cells #[.int .i8 u.op, .int .i8 u.f, .int .u64 u.n, .slice u.b u.m u.c] 26) NoS
    have ba := blk_alloc w3' (.cells #[.int .i8 u.op, .int .i8 u.f, .int .u64 u.n, .slice u.b u.m u.c] 26)
    generalize w3'.alloc (.cells #[.int .i8 u.op, .int .i8 u.f, .int .u64 u.n, .slice u.b u.m u.c] 26) = w4' at ca ba ⊢
    have s3' := c3'.size
    refine Calls.then (of1_ok (S := fun k => w0.heap.size ≤ k) (op := 6) (by omega) ba (hu.keepN ca) (by omega)) ?_
    rintro _ w5' ⟨r, rfl, hr, c5'⟩
    have c25 := (c3'.trans ca).trans c5'
    refine agg4 ?_
    refine (putR (vs := [.int .i8 r.op, .int .i8 r.f, .int .u64 r.n, .slice r.b r.m r.c]) (c25.blk b2 (fun x => x)) (cB2.trans (toB c25 _)) (Nat.le_refl _) rfl (by simp [oneC]) fun w8 b8 cB8 c8 => ?_ : setsW _ _ _ _ _)
    refine ⟨_, get_blk b8 0 _ rfl, _, get_blk b8 1 _ rfl, _, get_blk b8 2 _ rfl, _, _, _, get_blk b8 3 _ rfl, ?_⟩
    exact fin_ret (S := fun k => w0.heap.size ≤ k) h hr (fun k hk => by omega) (h2.keep c25) cB8 c8 ⟨by simp, 1, by rw [pa, if_neg n1, if_pos hw2]; rfl⟩
  | false =>
  rw [hw2, if_neg (by simp)] at h2
  rw [if_neg (by simp)]
  have n2 : ¬ isW ws i 1 [105, 100] = true := by simp [hw2]
  refine Calls.then (take_ok h2 1 [100, 114, 111, 112] (by omega)) ?_
  rintro v w3 ⟨rfl, h3, c3⟩
  have cB3 := cB2.trans c3
  have b3 := c3.blk b2 hbl
  have s3 := c3.size
  refine ⟨_, rfl, ?_⟩
  cases hw3 : isW ws i 1 [100, 114, 111, 112] with
  | true =>
    rw [hw3, if_pos rfl] at h3
    rw [if_pos rfl]
    refine Calls.then (of_ok w3 0 _ 0 0) ?_
    rintro _ w3' ⟨rfl, c3'⟩
    obtain ⟨u, hu0, hu⟩ : ∃ u : V4, u = ⟨0, 0, 0, none, 0, 0⟩ ∧ u.own w3' (fun k => w0.heap.size ≤ k) (bareS 0) := ⟨_, rfl, own_bare w3' _ (by omega)⟩
    rw [← hu0]
    refine agg4 ?_
    have ca := chg_alloc w3' (.cells #[.int .i8 u.op, .int .i8 u.f, .int .u64 u.n, .slice u.b u.m u.c] 26) NoS
    have ba := blk_alloc w3' (.cells #[.int .i8 u.op, .int .i8 u.f, .int .u64 u.n, .slice u.b u.m u.c] 26)
    generalize w3'.alloc (.cells #[.int .i8 u.op, .int .i8 u.f, .int .u64 u.n, .slice u.b u.m u.c] 26) = w4' at ca ba ⊢
    have s3' := c3'.size
    refine Calls.then (of1_ok (S := fun k => w0.heap.size ≤ k) (op := 6) (by omega) ba (hu.keepN ca) (by omega)) ?_
    rintro _ w5' ⟨r, rfl, hr, c5'⟩
    have c25 := (c3'.trans ca).trans c5'
    refine agg4 ?_
    refine (putR (vs := [.int .i8 r.op, .int .i8 r.f, .int .u64 r.n, .slice r.b r.m r.c]) (c25.blk b3 (fun x => x)) (cB3.trans (toB c25 _)) (Nat.le_refl _) rfl (by simp [oneC]) fun w8 b8 cB8 c8 => ?_ : setsW _ _ _ _ _)
    refine ⟨_, get_blk b8 0 _ rfl, _, get_blk b8 1 _ rfl, _, get_blk b8 2 _ rfl, _, _, _, get_blk b8 3 _ rfl, ?_⟩
    exact fin_ret (S := fun k => w0.heap.size ≤ k) h hr (fun k hk => by omega) (h3.keep c25) cB8 c8 ⟨by simp, 1, by rw [pa, if_neg n1, if_neg n2, if_pos hw3]; rfl⟩
  | false =>
  rw [hw3, if_neg (by simp)] at h3
  rw [if_neg (by simp)]
  have n3 : ¬ isW ws i 1 [100, 114, 111, 112] = true := by simp [hw3]
  refine Calls.then (take_ok h3 3 [40] (by omega)) ?_
  rintro v w4 ⟨rfl, h4, c4⟩
  have cB4 := cB3.trans c4
  have b4 := c4.blk b3 hbl
  have s4 := c4.size
  refine ⟨_, rfl, ?_⟩
  cases hw4 : isW ws i 3 [40] with
  | true =>
    rw [hw4, if_pos rfl] at h4
    rw [if_pos rfl]
    have lift : ∀ r, r ≠ .out → (∃ s, Pa ws (.row .pol) (i + 1) s ∧ s.next (closeS ws) = r) → Pa ws .atom i r := fun r hr ⟨s, hs, e⟩ => Pa.one hr hs fun f hf => by rw [pa, if_neg n1, if_neg n2, if_neg n3, if_pos hw4, hf]; exact e
    refine Calls.thenP (in16_ok (hpol _ (Nat.le_refl _)) w4 h4) ?_ fun c w' hb => BadP.from hb cB4 fun j hj => lift _ (by simp) hj
    rintro v w5 ⟨t, j, u, hP, rfl, hu, h5, c5⟩
    have cB5 := cB4.trans c5
    refine agg4 ?_
    refine (putR (vs := [.int .i8 u.op, .int .i8 u.f, .int .u64 u.n, .slice u.b u.m u.c]) (c5.blk b4 hbl) cB5 (Nat.le_refl _) rfl (by simp [oneC]) fun w8 b8 cB8 c8 => ?_ : setsW _ _ _ _ _)
    refine ⟨_, get_blk b8 0 _ rfl, _, get_blk b8 1 _ rfl, _, get_blk b8 2 _ rfl, _, _, _, get_blk b8 3 _ rfl, ?_⟩
    exact fin_ret h hu (fun k hk => by omega) h5 cB8 c8 (lift _ (by simp) hP)
  | false =>
  rw [hw4, if_neg (by simp)] at h4
  rw [if_neg (by simp)]
  have n4 : ¬ isW ws i 3 [40] = true := by simp [hw4]
  refine Calls.then (take_ok h4 1 [105, 102] (by omega)) ?_
  rintro v w5 ⟨rfl, h5, c5⟩
  have cB5 := cB4.trans c5
  have b5 := c5.blk b4 hbl
  have s5 := c5.size
  refine ⟨_, rfl, ?_⟩
  cases hw5 : isW ws i 1 [105, 102] with
  | true =>
    rw [hw5, if_pos rfl] at h5
    rw [if_pos rfl]
    have if0 : ∀ (f : Nat), pa ws (f + 1) .atom i = (pa ws f (.row .pred) (i + 1)).next fun p j =>
        if isW ws j 1 [116, 104, 101, 110] = true then (pa ws f (.row .pol) (j + 1)).next fun a j2 =>
          if isW ws j2 1 [101, 108, 115, 101] = true then (pa ws f (.row .pol) (j2 + 1)).next fun b j3 => .ok (.mk 8 0 0 [.mk 9 0 0 [fil p, a], .mk 9 0 0 [fil (.mk 3 0 0 [p]), b]]) j3
          else .bad j2
        else .bad j := fun f => by rw [pa, if_neg n1, if_neg n2, if_neg n3, if_neg n4, if_pos hw5]
    have bad0 : ∀ j, Pa ws (.row .pred) (i + 1) (.bad j) → Pa ws .atom i (.bad j) := fun j hj => Pa.one (by simp) hj fun f hf => by rw [if0, hf]; rfl
    have bad1 : ∀ p j, Pa ws (.row .pred) (i + 1) (.ok p j) → isW ws j 1 [116, 104, 101, 110] = false → Pa ws .atom i (.bad j) := fun p j hj hw => Pa.one (by simp) hj fun f hf => by rw [if0, hf]; show (if _ then _ else _) = _; rw [if_neg (by simp [hw])]
    have two : ∀ {p : Tm} {j : Nat} {s : Pr}, Pa ws (.row .pred) (i + 1) (.ok p j) → isW ws j 1 [116, 104, 101, 110] = true → Pa ws (.row .pol) (j + 1) s → ∀ r, r ≠ .out → (∀ f0, ∃ f, f0 ≤ f ∧ (s.next fun a j2 => if isW ws j2 1 [101, 108, 115, 101] = true then (pa ws f (.row .pol) (j2 + 1)).next fun b j3 => .ok (.mk 8 0 0 [.mk 9 0 0 [fil p, a], .mk 9 0 0 [fil (.mk 3 0 0 [p]), b]]) j3 else .bad j2) = r) → Pa ws .atom i r := fun {p j s} hj hw hs r hr hf => by
      obtain ⟨f1, hf1⟩ := hj.at
      obtain ⟨f2, hf2⟩ := hs.at
      obtain ⟨f, hle, hfr⟩ := hf (max f1 f2)
      refine ⟨hr, f + 1, ?_⟩
      rw [if0, hf1 f (by omega)]
      show (if _ then _ else _) = _
      rw [if_pos hw, hf2 f (by omega)]
      exact hfr
    have bad2 : ∀ p j j2, Pa ws (.row .pred) (i + 1) (.ok p j) → isW ws j 1 [116, 104, 101, 110] = true → Pa ws (.row .pol) (j + 1) (.bad j2) → Pa ws .atom i (.bad j2) := fun p j j2 hj hw hs => two hj hw hs _ (by simp) fun f0 => ⟨f0, Nat.le_refl _, rfl⟩
    have bad3 : ∀ p j a j2, Pa ws (.row .pred) (i + 1) (.ok p j) → isW ws j 1 [116, 104, 101, 110] = true → Pa ws (.row .pol) (j + 1) (.ok a j2) → isW ws j2 1 [101, 108, 115, 101] = false → Pa ws .atom i (.bad j2) := fun p j a j2 hj hw hs hw2 => two hj hw hs _ (by simp) fun f0 => ⟨f0, Nat.le_refl _, by show (if _ then _ else _) = _; rw [if_neg (by simp [hw2])]⟩
    have ifbad2 : ∀ p j a j2 {j3 : Nat}, Pa ws (.row .pred) (i + 1) (.ok p j) → isW ws j 1 [116, 104, 101, 110] = true → Pa ws (.row .pol) (j + 1) (.ok a j2) → isW ws j2 1 [101, 108, 115, 101] = true → Pa ws (.row .pol) (j2 + 1) (.bad j3) → Pa ws .atom i (.bad j3) := fun p j a j2 j3 hj hw hs hw2 h3 => two hj hw hs _ (by simp) fun f0 => by
      obtain ⟨f3, hf3⟩ := h3.at
      exact ⟨max f0 f3, Nat.le_max_left _ _, by show (if _ then _ else _) = _; rw [if_pos hw2, hf3 _ (Nat.le_max_right _ _)]; rfl⟩
    have ifok : ∀ p j a j2 b j3, Pa ws (.row .pred) (i + 1) (.ok p j) → isW ws j 1 [116, 104, 101, 110] = true → Pa ws (.row .pol) (j + 1) (.ok a j2) → isW ws j2 1 [101, 108, 115, 101] = true → Pa ws (.row .pol) (j2 + 1) (.ok b j3) → Pa ws .atom i (.ok (.mk 8 0 0 [.mk 9 0 0 [fil p, a], .mk 9 0 0 [fil (.mk 3 0 0 [p]), b]]) j3) := fun p j a j2 b j3 hj hw hs hw2 h3 => two hj hw hs _ (by simp) fun f0 => by
      obtain ⟨f3, hf3⟩ := h3.at
      exact ⟨max f0 f3, Nat.le_max_left _ _, by show (if _ then _ else _) = _; rw [if_pos hw2, hf3 _ (Nat.le_max_right _ _)]; rfl⟩
    clear if0 two
    refine Calls.thenP (hpred w5 h5) ?_ fun c w' hb => BadP.from hb cB5 fun j hj => bad0 j hj
    rintro v w6 ⟨tp, jp, up, hp1, rfl, hup6, h6, c6⟩
    have hle1 := hp1.le
    have cB6 := cB5.trans c6
    have b6 := c6.blk b5 hbl
    have s6 := c6.size
    refine agg4 ?_
    refine (put4 (w := w6) (vs := [.int .i8 up.op, .int .i8 up.f, .int .u64 up.n, .slice up.b up.m up.c]) (cs := [.int .i8 0, .int .i8 0, .int .u64 0, .slice none 0 0]) (blk_alloc w6 _) (chg_alloc w6 _ _) (Nat.le_refl _) rfl (by simp [oneC]) fun w7 b7 c7 _ z7 => ?_ : setsW _ _ _ _ _)
    rw [size_alloc] at z7
    have h7 := h6.keep c7
    have cB7 := cB6.trans (toB c7 _)
    have r7 := c7.blk b6 (fun x => x)
    refine Calls.thenP (must_ok h7 1 [116, 104, 101, 110] (by omega)) ?_ fun c w' hb => ⟨jp, bad1 _ _ hp1 hb.1, hb.2.from cB7⟩
    rintro v w8' ⟨hw6, h8, c8'⟩
    have cB8' := cB7.trans c8'
    have r8 := c8'.blk r7 hbl
    have s8 := c8'.size
    have p8 := c8'.blk b7 (fun e => by have e2 : w6.heap.size = q.b := e; omega)
    refine Calls.thenP (hpol _ (by omega) w8' h8) ?_ fun c w' hb => BadP.from hb cB8' fun j hj => bad2 _ _ j hp1 hw6 hj
    rintro v w9 ⟨ta, ja, ua, hp2, rfl, hua9, h9, c9⟩
    have hle2 := hp2.le
    have cB9 := cB8'.trans c9
    have r9 := c9.blk r8 hbl
    have s9 := c9.size
    have p9 := c9.blk p8 (fun e => by have e2 : w6.heap.size = q.b := e; omega)
    refine agg4 ?_
    refine (put4 (w := w9) (vs := [.int .i8 ua.op, .int .i8 ua.f, .int .u64 ua.n, .slice ua.b ua.m ua.c]) (cs := [.int .i8 0, .int .i8 0, .int .u64 0, .slice none 0 0]) (blk_alloc w9 _) (chg_alloc w9 _ _) (Nat.le_refl _) rfl (by simp [oneC]) fun w10 b10 c10 _ z10 => ?_ : setsW _ _ _ _ _)
    rw [size_alloc] at z10
    have h10 := h9.keep c10
    have cB10 := cB9.trans (toB c10 _)
    have r10 := c10.blk r9 (fun x => x)
    have p10 := c10.blk p9 (fun x => x)
    refine Calls.thenP (must_ok h10 1 [101, 108, 115, 101] (by omega)) ?_ fun c w' hb => ⟨ja, bad3 _ _ _ _ hp1 hw6 hp2 hb.1, hb.2.from cB10⟩
    rintro v w11 ⟨hw7, h11, c11⟩
    have cB11 := cB10.trans c11
    have r11 := c11.blk r10 hbl
    have p11 := c11.blk p10 (fun e => by have e2 : w6.heap.size = q.b := e; omega)
    have a11 := c11.blk b10 (fun e => by have e2 : w9.heap.size = q.b := e; omega)
    have oup : up.own w11.drew (fun k => w.heap.size < k) tp := ((((hup6.keepN c7).keep (T := fun k => w.heap.size < k) (c8'.trans c9) (fun b hb e => by have : b = q.b := e; omega) fun b hb => by omega).keepN c10).keep (T := fun k => w.heap.size < k) c11 (fun b hb e => by have : b = q.b := e; omega) fun b hb => hb).keepN (chg_drew w11 NoS)
    have oua : ua.own w11.drew (fun k => w.heap.size < k) ta := ((hua9.keepN c10).keep (T := fun k => w.heap.size < k) c11 (fun b hb e => by have : b = q.b := e; omega) fun b hb => by omega).keepN (chg_drew w11 NoS)
    have hr11 := h11.keep (chg_drew w11 NoS)
    have cBd := cB11.trans (chg_drew w11 (OnlyB q.b))
    have rd : w11.drew.heap[w.heap.size]? = _ := r11
    have pd : w11.drew.heap[w6.heap.size]? = _ := p11
    have ad : w11.drew.heap[w9.heap.size]? = _ := a11
    clear r11 p11 a11 h11 cB11
    generalize w11.drew = wb at oup oua hr11 cBd rd pd ad ⊢
    have cb0 := Chg.refl (OnlyB q.b) wb
    have hwb : True := trivial
    refine ⟨fun k => k = q.b ∨ k = w.heap.size, fun e => by rcases e with e | e <;> omega, _, get_blk pd 0 _ rfl, _, get_blk pd 1 _ rfl, _, get_blk pd 2 _ rfl, _, _, _, get_blk pd 3 _ rfl, fun e => by rcases e with e | e <;> omega, _, get_blk ad 0 _ rfl, _, get_blk ad 1 _ rfl, _, get_blk ad 2 _ rfl, _, _, _, get_blk ad 3 _ rfl, fun e => by rcases e with e | e <;> omega, _, get_blk pd 0 _ rfl, _, get_blk pd 1 _ rfl, _, get_blk pd 2 _ rfl, _, _, _, get_blk pd 3 _ rfl, ?_⟩
    refine ⟨?_, ?_⟩
    · -- 1 first
      have ca1 := chg_alloc wb (.cells #[.int .i8 up.op, .int .i8 up.f, .int .u64 up.n, .slice up.b up.m up.c] 26) NoS
      have ba1 := blk_alloc wb (.cells #[.int .i8 up.op, .int .i8 up.f, .int .u64 up.n, .slice up.b up.m up.c] 26)
      generalize wb.alloc (.cells #[.int .i8 up.op, .int .i8 up.f, .int .u64 up.n, .slice up.b up.m up.c] 26) = v1 at ca1 ba1 ⊢
      have hb1 : w.heap.size < wb.heap.size := lt_of_blk rd
      have rd2 := hr11.keep ca1
      have cw2 := cBd.trans (toB ca1 _)
      have cb2 := cb0.trans (toB ca1 _)
      have br2 := ca1.blk rd (fun x => x)
      have oup2 := oup.keepN ca1
      have oua2 := oua.keepN ca1
      have sz2 := cw2.size
      refine ⟨⟨cb2.size, fun b hb hs => cb2.block b hb (fun e => hs (.inl e))⟩, ?_⟩
      refine ⟨?_, ?_⟩
      · -- 2 first
        refine Calls.then (of1_ok (S := fun k => w.heap.size < k) (op := 6) (by omega) ba1 oup2 hb1) ?_
        rintro _ v3 ⟨u44, rfl, oo3, cc3⟩
        have rd4 := rd2.keep cc3
        have cw4 := cw2.trans (toB cc3 _)
        have cb4 := cb2.trans (toB cc3 _)
        have br4 := cc3.blk br2 (fun x => x)
        have oup4 := oup2.keepN cc3
        have oua4 := oua2.keepN cc3
        have bg434 := cc3.blk ba1 (fun x => x)
        have sz4 := cw4.size
        refine agg4 ?_
        refine ⟨⟨cb4.size, fun b hb hs => cb4.block b hb (fun e => hs (.inl e))⟩, ?_⟩
        refine ⟨?_, ?_⟩
        · -- 4 first
          have ca5 := chg_alloc v3 (.cells #[.int .i8 u44.op, .int .i8 u44.f, .int .u64 u44.n, .slice u44.b u44.m u44.c, .int .i8 ua.op, .int .i8 ua.f, .int .u64 ua.n, .slice ua.b ua.m ua.c] 26) NoS
          have ba5 := blk_alloc v3 (.cells #[.int .i8 u44.op, .int .i8 u44.f, .int .u64 u44.n, .slice u44.b u44.m u44.c, .int .i8 ua.op, .int .i8 ua.f, .int .u64 ua.n, .slice ua.b ua.m ua.c] 26)
          generalize v3.alloc (.cells #[.int .i8 u44.op, .int .i8 u44.f, .int .u64 u44.n, .slice u44.b u44.m u44.c, .int .i8 ua.op, .int .i8 ua.f, .int .u64 ua.n, .slice ua.b ua.m ua.c] 26) = v5 at ca5 ba5 ⊢
          have hb5 : w.heap.size < v3.heap.size := lt_of_blk br4
          have rd6 := rd4.keep ca5
          have cw6 := cw4.trans (toB ca5 _)
          have cb6 := cb4.trans (toB ca5 _)
          have br6 := ca5.blk br4 (fun x => x)
          have oup6 := oup4.keepN ca5
          have oua6 := oua4.keepN ca5
          have ou446 := oo3.keepN ca5
          have bg436 := ca5.blk bg434 (fun x => x)
          have sz6 := cw6.size
          refine ⟨⟨cb6.size, fun b hb hs => cb6.block b hb (fun e => hs (.inl e))⟩, ?_⟩
          refine ⟨?_, ?_⟩
          · -- 5 first
            refine Calls.then (of2_ok (S := fun k => w.heap.size < k) (op := 9) (by omega) ba5 ou446 oua6 hb5) ?_
            rintro _ v7 ⟨u47, rfl, oo7, cc7⟩
            have rd8 := rd6.keep cc7
            have cw8 := cw6.trans (toB cc7 _)
            have cb8 := cb6.trans (toB cc7 _)
            have br8 := cc7.blk br6 (fun x => x)
            have oup8 := oup6.keepN cc7
            have oua8 := oua6.keepN cc7
            have ou448 := ou446.keepN cc7
            have bg438 := cc7.blk bg436 (fun x => x)
            have bg468 := cc7.blk ba5 (fun x => x)
            have sz8 := cw8.size
            refine agg4 ?_
            refine ⟨⟨cb8.size, fun b hb hs => cb8.block b hb (fun e => hs (.inl e))⟩, ?_⟩
            have ca9 := chg_alloc v7 (.cells #[.int .i8 up.op, .int .i8 up.f, .int .u64 up.n, .slice up.b up.m up.c] 26) NoS
            have ba9 := blk_alloc v7 (.cells #[.int .i8 up.op, .int .i8 up.f, .int .u64 up.n, .slice up.b up.m up.c] 26)
            generalize v7.alloc (.cells #[.int .i8 up.op, .int .i8 up.f, .int .u64 up.n, .slice up.b up.m up.c] 26) = v9 at ca9 ba9 ⊢
            have hb9 : w.heap.size < v7.heap.size := lt_of_blk br8
            have rd10 := rd8.keep ca9
            have cw10 := cw8.trans (toB ca9 _)
            have cb10 := cb8.trans (toB ca9 _)
            have br10 := ca9.blk br8 (fun x => x)
            have oup10 := oup8.keepN ca9
            have oua10 := oua8.keepN ca9
            have ou4410 := ou448.keepN ca9
            have ou4710 := oo7.keepN ca9
            have bg4310 := ca9.blk bg438 (fun x => x)
            have bg4610 := ca9.blk bg468 (fun x => x)
            have sz10 := cw10.size
            refine ⟨⟨cb10.size, fun b hb hs => cb10.block b hb (fun e => hs (.inl e))⟩, ?_⟩
            refine Calls.then (of1_ok (S := fun k => w.heap.size < k) (op := 3) (by omega) ba9 oup10 hb9) ?_
            rintro _ v11 ⟨u50, rfl, oo11, cc11⟩
            have rd12 := rd10.keep cc11
            have cw12 := cw10.trans (toB cc11 _)
            have cb12 := cb10.trans (toB cc11 _)
            have br12 := cc11.blk br10 (fun x => x)
            have oup12 := oup10.keepN cc11
            have oua12 := oua10.keepN cc11
            have ou4412 := ou4410.keepN cc11
            have ou4712 := ou4710.keepN cc11
            have bg4312 := cc11.blk bg4310 (fun x => x)
            have bg4612 := cc11.blk bg4610 (fun x => x)
            have bg4912 := cc11.blk ba9 (fun x => x)
            have sz12 := cw12.size
            refine agg4 ?_
            refine ⟨⟨cb12.size, fun b hb hs => cb12.block b hb (fun e => hs (.inl e))⟩, ?_⟩
            have ca13 := chg_alloc v11 (.cells #[.int .i8 u50.op, .int .i8 u50.f, .int .u64 u50.n, .slice u50.b u50.m u50.c] 26) NoS
            have ba13 := blk_alloc v11 (.cells #[.int .i8 u50.op, .int .i8 u50.f, .int .u64 u50.n, .slice u50.b u50.m u50.c] 26)
            generalize v11.alloc (.cells #[.int .i8 u50.op, .int .i8 u50.f, .int .u64 u50.n, .slice u50.b u50.m u50.c] 26) = v13 at ca13 ba13 ⊢
            have hb13 : w.heap.size < v11.heap.size := lt_of_blk br12
            have rd14 := rd12.keep ca13
            have cw14 := cw12.trans (toB ca13 _)
            have cb14 := cb12.trans (toB ca13 _)
            have br14 := ca13.blk br12 (fun x => x)
            have oup14 := oup12.keepN ca13
            have oua14 := oua12.keepN ca13
            have ou4414 := ou4412.keepN ca13
            have ou4714 := ou4712.keepN ca13
            have ou5014 := oo11.keepN ca13
            have bg4314 := ca13.blk bg4312 (fun x => x)
            have bg4614 := ca13.blk bg4612 (fun x => x)
            have bg4914 := ca13.blk bg4912 (fun x => x)
            have sz14 := cw14.size
            refine ⟨⟨cb14.size, fun b hb hs => cb14.block b hb (fun e => hs (.inl e))⟩, ?_⟩
            refine Calls.then (of1_ok (S := fun k => w.heap.size < k) (op := 6) (by omega) ba13 ou5014 hb13) ?_
            rintro _ v15 ⟨u52, rfl, oo15, cc15⟩
            have rd16 := rd14.keep cc15
            have cw16 := cw14.trans (toB cc15 _)
            have cb16 := cb14.trans (toB cc15 _)
            have br16 := cc15.blk br14 (fun x => x)
            have oup16 := oup14.keepN cc15
            have oua16 := oua14.keepN cc15
            have ou4416 := ou4414.keepN cc15
            have ou4716 := ou4714.keepN cc15
            have ou5016 := ou5014.keepN cc15
            have bg4316 := cc15.blk bg4314 (fun x => x)
            have bg4616 := cc15.blk bg4614 (fun x => x)
            have bg4916 := cc15.blk bg4914 (fun x => x)
            have bg5116 := cc15.blk ba13 (fun x => x)
            have sz16 := cw16.size
            refine agg4 ?_
            refine ⟨⟨cb16.size, fun b hb hs => cb16.block b hb (fun e => hs (.inl e))⟩, ?_⟩
            refine Calls.thenP (hpol _ (by omega) v15 rd16) ?_ fun c w' hb => BadP.from hb cw16 fun j hj => ifbad2 _ _ _ _ hp1 hw6 hp2 hw7 hj
            rintro _ v17 ⟨tb, jb, ub, hp3, rfl, hub17, rdp17, cp17⟩
            have hlw17 : w.heap.size < v15.heap.size := lt_of_blk br16
            have cw18 := cw16.trans cp17
            have cb18 := cb16.trans cp17
            have br18 := cp17.blk br16 hbl
            have oup18 := oup16.keep (T := fun k => w.heap.size < k) cp17 (fun b hb e => by have : b = q.b := e; omega) fun b hb => hb
            have oua18 := oua16.keep (T := fun k => w.heap.size < k) cp17 (fun b hb e => by have : b = q.b := e; omega) fun b hb => hb
            have ou4418 := ou4416.keep (T := fun k => w.heap.size < k) cp17 (fun b hb e => by have : b = q.b := e; omega) fun b hb => hb
            have ou4718 := ou4716.keep (T := fun k => w.heap.size < k) cp17 (fun b hb e => by have : b = q.b := e; omega) fun b hb => hb
            have ou5018 := ou5016.keep (T := fun k => w.heap.size < k) cp17 (fun b hb e => by have : b = q.b := e; omega) fun b hb => hb
            have ou5218 := oo15.keep (T := fun k => w.heap.size < k) cp17 (fun b hb e => by have : b = q.b := e; omega) fun b hb => hb
            have bg4318 := cp17.blk bg4316 (fun e => by have e2 : wb.heap.size = q.b := e; omega)
            have bg4618 := cp17.blk bg4616 (fun e => by have e2 : v3.heap.size = q.b := e; omega)
            have bg4918 := cp17.blk bg4916 (fun e => by have e2 : v7.heap.size = q.b := e; omega)
            have bg5118 := cp17.blk bg5116 (fun e => by have e2 : v11.heap.size = q.b := e; omega)
            have sz18 := cw18.size
            have oub17 := hub17.mono (T := fun k => w.heap.size < k) fun b hb => by omega
            refine agg4 ?_
            refine ⟨⟨cb18.size, fun b hb hs => cb18.block b hb (fun e => hs (.inl e))⟩, ?_⟩
            have ca19 := chg_alloc v17 (.cells #[.int .i8 u52.op, .int .i8 u52.f, .int .u64 u52.n, .slice u52.b u52.m u52.c, .int .i8 ub.op, .int .i8 ub.f, .int .u64 ub.n, .slice ub.b ub.m ub.c] 26) NoS
            have ba19 := blk_alloc v17 (.cells #[.int .i8 u52.op, .int .i8 u52.f, .int .u64 u52.n, .slice u52.b u52.m u52.c, .int .i8 ub.op, .int .i8 ub.f, .int .u64 ub.n, .slice ub.b ub.m ub.c] 26)
            generalize v17.alloc (.cells #[.int .i8 u52.op, .int .i8 u52.f, .int .u64 u52.n, .slice u52.b u52.m u52.c, .int .i8 ub.op, .int .i8 ub.f, .int .u64 ub.n, .slice ub.b ub.m ub.c] 26) = v19 at ca19 ba19 ⊢
            have hb19 : w.heap.size < v17.heap.size := lt_of_blk br18
            have rd20 := rdp17.keep ca19
            have cw20 := cw18.trans (toB ca19 _)
            have cb20 := cb18.trans (toB ca19 _)
            have br20 := ca19.blk br18 (fun x => x)
            have oup20 := oup18.keepN ca19
            have oua20 := oua18.keepN ca19
            have ou4420 := ou4418.keepN ca19
            have ou4720 := ou4718.keepN ca19
            have ou5020 := ou5018.keepN ca19
            have ou5220 := ou5218.keepN ca19
            have oub20 := oub17.keepN ca19
            have bg4320 := ca19.blk bg4318 (fun x => x)
            have bg4620 := ca19.blk bg4618 (fun x => x)
            have bg4920 := ca19.blk bg4918 (fun x => x)
            have bg5120 := ca19.blk bg5118 (fun x => x)
            have sz20 := cw20.size
            refine ⟨⟨cb20.size, fun b hb hs => cb20.block b hb (fun e => hs (.inl e))⟩, ?_⟩
            refine Calls.then (of2_ok (S := fun k => w.heap.size < k) (op := 9) (by omega) ba19 ou5220 oub20 hb19) ?_
            rintro _ v21 ⟨u56, rfl, oo21, cc21⟩
            have rd22 := rd20.keep cc21
            have cw22 := cw20.trans (toB cc21 _)
            have cb22 := cb20.trans (toB cc21 _)
            have br22 := cc21.blk br20 (fun x => x)
            have oup22 := oup20.keepN cc21
            have oua22 := oua20.keepN cc21
            have ou4422 := ou4420.keepN cc21
            have ou4722 := ou4720.keepN cc21
            have ou5022 := ou5020.keepN cc21
            have ou5222 := ou5220.keepN cc21
            have oub22 := oub20.keepN cc21
            have bg4322 := cc21.blk bg4320 (fun x => x)
            have bg4622 := cc21.blk bg4620 (fun x => x)
            have bg4922 := cc21.blk bg4920 (fun x => x)
            have bg5122 := cc21.blk bg5120 (fun x => x)
            have bg5522 := cc21.blk ba19 (fun x => x)
            have sz22 := cw22.size
            refine agg4 ?_
            refine ⟨⟨cb22.size, fun b hb hs => cb22.block b hb (fun e => hs (.inl e))⟩, ?_⟩
            have ca23 := chg_alloc v21 (.cells #[.int .i8 u47.op, .int .i8 u47.f, .int .u64 u47.n, .slice u47.b u47.m u47.c, .int .i8 u56.op, .int .i8 u56.f, .int .u64 u56.n, .slice u56.b u56.m u56.c] 26) NoS
            have ba23 := blk_alloc v21 (.cells #[.int .i8 u47.op, .int .i8 u47.f, .int .u64 u47.n, .slice u47.b u47.m u47.c, .int .i8 u56.op, .int .i8 u56.f, .int .u64 u56.n, .slice u56.b u56.m u56.c] 26)
            generalize v21.alloc (.cells #[.int .i8 u47.op, .int .i8 u47.f, .int .u64 u47.n, .slice u47.b u47.m u47.c, .int .i8 u56.op, .int .i8 u56.f, .int .u64 u56.n, .slice u56.b u56.m u56.c] 26) = v23 at ca23 ba23 ⊢
            have hb23 : w.heap.size < v21.heap.size := lt_of_blk br22
            have rd24 := rd22.keep ca23
            have cw24 := cw22.trans (toB ca23 _)
            have cb24 := cb22.trans (toB ca23 _)
            have br24 := ca23.blk br22 (fun x => x)
            have oup24 := oup22.keepN ca23
            have oua24 := oua22.keepN ca23
            have ou4424 := ou4422.keepN ca23
            have ou4724 := ou4722.keepN ca23
            have ou5024 := ou5022.keepN ca23
            have ou5224 := ou5222.keepN ca23
            have oub24 := oub22.keepN ca23
            have ou5624 := oo21.keepN ca23
            have bg4324 := ca23.blk bg4322 (fun x => x)
            have bg4624 := ca23.blk bg4622 (fun x => x)
            have bg4924 := ca23.blk bg4922 (fun x => x)
            have bg5124 := ca23.blk bg5122 (fun x => x)
            have bg5524 := ca23.blk bg5522 (fun x => x)
            have sz24 := cw24.size
            refine ⟨⟨cb24.size, fun b hb hs => cb24.block b hb (fun e => hs (.inl e))⟩, ?_⟩
            refine Calls.then (of2_ok (S := fun k => w.heap.size < k) (op := 8) (by omega) ba23 ou4724 ou5624 hb23) ?_
            rintro _ v25 ⟨u58, rfl, oo25, cc25⟩
            have rd26 := rd24.keep cc25
            have cw26 := cw24.trans (toB cc25 _)
            have cb26 := cb24.trans (toB cc25 _)
            have br26 := cc25.blk br24 (fun x => x)
            have oup26 := oup24.keepN cc25
            have oua26 := oua24.keepN cc25
            have ou4426 := ou4424.keepN cc25
            have ou4726 := ou4724.keepN cc25
            have ou5026 := ou5024.keepN cc25
            have ou5226 := ou5224.keepN cc25
            have oub26 := oub24.keepN cc25
            have ou5626 := ou5624.keepN cc25
            have bg4326 := cc25.blk bg4324 (fun x => x)
            have bg4626 := cc25.blk bg4624 (fun x => x)
            have bg4926 := cc25.blk bg4924 (fun x => x)
            have bg5126 := cc25.blk bg5124 (fun x => x)
            have bg5526 := cc25.blk bg5524 (fun x => x)
            have bg5726 := cc25.blk ba23 (fun x => x)
            have sz26 := cw26.size
            refine agg4 ?_
            refine ⟨⟨cb26.size, fun b hb hs => cb26.block b hb (fun e => hs (.inl e))⟩, ?_⟩
            refine (putR (vs := [.int .i8 u58.op, .int .i8 u58.f, .int .u64 u58.n, .slice u58.b u58.m u58.c]) br26 cw26 (Nat.le_refl _) rfl (by simp [oneC]) fun w8 b8 cB8 c8 => ?_ : setsW _ _ _ _ _)
            have kb8 : Kept (fun k => k = q.b ∨ k = w.heap.size) wb w8 := kept_put cb26 c8 hwb
            refine ⟨kb8, _, get_blk b8 0 _ rfl, _, get_blk b8 1 _ rfl, _, get_blk b8 2 _ rfl, _, _, _, get_blk b8 3 _ rfl, ?_⟩
            exact fin_ret (S := fun k => w.heap.size < k) h oo25 (fun k hk => hk) rd26 cB8 c8 (ifok _ _ _ _ _ _ hp1 hw6 hp2 hw7 hp3)
          · -- 7 first
            have ca28 := chg_alloc v5 (.cells #[.int .i8 up.op, .int .i8 up.f, .int .u64 up.n, .slice up.b up.m up.c] 26) NoS
            have ba28 := blk_alloc v5 (.cells #[.int .i8 up.op, .int .i8 up.f, .int .u64 up.n, .slice up.b up.m up.c] 26)
            generalize v5.alloc (.cells #[.int .i8 up.op, .int .i8 up.f, .int .u64 up.n, .slice up.b up.m up.c] 26) = v28 at ca28 ba28 ⊢
            have hb28 : w.heap.size < v5.heap.size := lt_of_blk br6
            have rd29 := rd6.keep ca28
            have cw29 := cw6.trans (toB ca28 _)
            have cb29 := cb6.trans (toB ca28 _)
            have br29 := ca28.blk br6 (fun x => x)
            have oup29 := oup6.keepN ca28
            have oua29 := oua6.keepN ca28
            have ou4429 := ou446.keepN ca28
            have bg4329 := ca28.blk bg436 (fun x => x)
            have bg4629 := ca28.blk ba5 (fun x => x)
            have sz29 := cw29.size
            refine ⟨⟨cb29.size, fun b hb hs => cb29.block b hb (fun e => hs (.inl e))⟩, ?_⟩
            refine Calls.then (of2_ok (S := fun k => w.heap.size < k) (op := 9) (by omega) bg4629 ou4429 oua29 hb5) ?_
            rintro _ v30 ⟨u47, rfl, oo30, cc30⟩
            have rd31 := rd29.keep cc30
            have cw31 := cw29.trans (toB cc30 _)
            have cb31 := cb29.trans (toB cc30 _)
            have br31 := cc30.blk br29 (fun x => x)
            have oup31 := oup29.keepN cc30
            have oua31 := oua29.keepN cc30
            have ou4431 := ou4429.keepN cc30
            have bg4331 := cc30.blk bg4329 (fun x => x)
            have bg4631 := cc30.blk bg4629 (fun x => x)
            have bg4931 := cc30.blk ba28 (fun x => x)
            have sz31 := cw31.size
            refine agg4 ?_
            refine ⟨⟨cb31.size, fun b hb hs => cb31.block b hb (fun e => hs (.inl e))⟩, ?_⟩
            refine Calls.then (of1_ok (S := fun k => w.heap.size < k) (op := 3) (by omega) bg4931 oup31 hb28) ?_
            rintro _ v32 ⟨u50, rfl, oo32, cc32⟩
            have rd33 := rd31.keep cc32
            have cw33 := cw31.trans (toB cc32 _)
            have cb33 := cb31.trans (toB cc32 _)
            have br33 := cc32.blk br31 (fun x => x)
            have oup33 := oup31.keepN cc32
            have oua33 := oua31.keepN cc32
            have ou4433 := ou4431.keepN cc32
            have ou4733 := oo30.keepN cc32
            have bg4333 := cc32.blk bg4331 (fun x => x)
            have bg4633 := cc32.blk bg4631 (fun x => x)
            have bg4933 := cc32.blk bg4931 (fun x => x)
            have sz33 := cw33.size
            refine agg4 ?_
            refine ⟨⟨cb33.size, fun b hb hs => cb33.block b hb (fun e => hs (.inl e))⟩, ?_⟩
            have ca34 := chg_alloc v32 (.cells #[.int .i8 u50.op, .int .i8 u50.f, .int .u64 u50.n, .slice u50.b u50.m u50.c] 26) NoS
            have ba34 := blk_alloc v32 (.cells #[.int .i8 u50.op, .int .i8 u50.f, .int .u64 u50.n, .slice u50.b u50.m u50.c] 26)
            generalize v32.alloc (.cells #[.int .i8 u50.op, .int .i8 u50.f, .int .u64 u50.n, .slice u50.b u50.m u50.c] 26) = v34 at ca34 ba34 ⊢
            have hb34 : w.heap.size < v32.heap.size := lt_of_blk br33
            have rd35 := rd33.keep ca34
            have cw35 := cw33.trans (toB ca34 _)
            have cb35 := cb33.trans (toB ca34 _)
            have br35 := ca34.blk br33 (fun x => x)
            have oup35 := oup33.keepN ca34
            have oua35 := oua33.keepN ca34
            have ou4435 := ou4433.keepN ca34
            have ou4735 := ou4733.keepN ca34
            have ou5035 := oo32.keepN ca34
            have bg4335 := ca34.blk bg4333 (fun x => x)
            have bg4635 := ca34.blk bg4633 (fun x => x)
            have bg4935 := ca34.blk bg4933 (fun x => x)
            have sz35 := cw35.size
            refine ⟨⟨cb35.size, fun b hb hs => cb35.block b hb (fun e => hs (.inl e))⟩, ?_⟩
            refine Calls.then (of1_ok (S := fun k => w.heap.size < k) (op := 6) (by omega) ba34 ou5035 hb34) ?_
            rintro _ v36 ⟨u52, rfl, oo36, cc36⟩
            have rd37 := rd35.keep cc36
            have cw37 := cw35.trans (toB cc36 _)
            have cb37 := cb35.trans (toB cc36 _)
            have br37 := cc36.blk br35 (fun x => x)
            have oup37 := oup35.keepN cc36
            have oua37 := oua35.keepN cc36
            have ou4437 := ou4435.keepN cc36
            have ou4737 := ou4735.keepN cc36
            have ou5037 := ou5035.keepN cc36
            have bg4337 := cc36.blk bg4335 (fun x => x)
            have bg4637 := cc36.blk bg4635 (fun x => x)
            have bg4937 := cc36.blk bg4935 (fun x => x)
            have bg5137 := cc36.blk ba34 (fun x => x)
            have sz37 := cw37.size
            refine agg4 ?_
            refine ⟨⟨cb37.size, fun b hb hs => cb37.block b hb (fun e => hs (.inl e))⟩, ?_⟩
            refine Calls.thenP (hpol _ (by omega) v36 rd37) ?_ fun c w' hb => BadP.from hb cw37 fun j hj => ifbad2 _ _ _ _ hp1 hw6 hp2 hw7 hj
            rintro _ v38 ⟨tb, jb, ub, hp3, rfl, hub38, rdp38, cp38⟩
            have hlw38 : w.heap.size < v36.heap.size := lt_of_blk br37
            have cw39 := cw37.trans cp38
            have cb39 := cb37.trans cp38
            have br39 := cp38.blk br37 hbl
            have oup39 := oup37.keep (T := fun k => w.heap.size < k) cp38 (fun b hb e => by have : b = q.b := e; omega) fun b hb => hb
            have oua39 := oua37.keep (T := fun k => w.heap.size < k) cp38 (fun b hb e => by have : b = q.b := e; omega) fun b hb => hb
            have ou4439 := ou4437.keep (T := fun k => w.heap.size < k) cp38 (fun b hb e => by have : b = q.b := e; omega) fun b hb => hb
            have ou4739 := ou4737.keep (T := fun k => w.heap.size < k) cp38 (fun b hb e => by have : b = q.b := e; omega) fun b hb => hb
            have ou5039 := ou5037.keep (T := fun k => w.heap.size < k) cp38 (fun b hb e => by have : b = q.b := e; omega) fun b hb => hb
            have ou5239 := oo36.keep (T := fun k => w.heap.size < k) cp38 (fun b hb e => by have : b = q.b := e; omega) fun b hb => hb
            have bg4339 := cp38.blk bg4337 (fun e => by have e2 : wb.heap.size = q.b := e; omega)
            have bg4639 := cp38.blk bg4637 (fun e => by have e2 : v3.heap.size = q.b := e; omega)
            have bg4939 := cp38.blk bg4937 (fun e => by have e2 : v5.heap.size = q.b := e; omega)
            have bg5139 := cp38.blk bg5137 (fun e => by have e2 : v32.heap.size = q.b := e; omega)
            have sz39 := cw39.size
            have oub38 := hub38.mono (T := fun k => w.heap.size < k) fun b hb => by omega
            refine agg4 ?_
            refine ⟨⟨cb39.size, fun b hb hs => cb39.block b hb (fun e => hs (.inl e))⟩, ?_⟩
            have ca40 := chg_alloc v38 (.cells #[.int .i8 u52.op, .int .i8 u52.f, .int .u64 u52.n, .slice u52.b u52.m u52.c, .int .i8 ub.op, .int .i8 ub.f, .int .u64 ub.n, .slice ub.b ub.m ub.c] 26) NoS
            have ba40 := blk_alloc v38 (.cells #[.int .i8 u52.op, .int .i8 u52.f, .int .u64 u52.n, .slice u52.b u52.m u52.c, .int .i8 ub.op, .int .i8 ub.f, .int .u64 ub.n, .slice ub.b ub.m ub.c] 26)
            generalize v38.alloc (.cells #[.int .i8 u52.op, .int .i8 u52.f, .int .u64 u52.n, .slice u52.b u52.m u52.c, .int .i8 ub.op, .int .i8 ub.f, .int .u64 ub.n, .slice ub.b ub.m ub.c] 26) = v40 at ca40 ba40 ⊢
            have hb40 : w.heap.size < v38.heap.size := lt_of_blk br39
            have rd41 := rdp38.keep ca40
            have cw41 := cw39.trans (toB ca40 _)
            have cb41 := cb39.trans (toB ca40 _)
            have br41 := ca40.blk br39 (fun x => x)
            have oup41 := oup39.keepN ca40
            have oua41 := oua39.keepN ca40
            have ou4441 := ou4439.keepN ca40
            have ou4741 := ou4739.keepN ca40
            have ou5041 := ou5039.keepN ca40
            have ou5241 := ou5239.keepN ca40
            have oub41 := oub38.keepN ca40
            have bg4341 := ca40.blk bg4339 (fun x => x)
            have bg4641 := ca40.blk bg4639 (fun x => x)
            have bg4941 := ca40.blk bg4939 (fun x => x)
            have bg5141 := ca40.blk bg5139 (fun x => x)
            have sz41 := cw41.size
            refine ⟨⟨cb41.size, fun b hb hs => cb41.block b hb (fun e => hs (.inl e))⟩, ?_⟩
            refine Calls.then (of2_ok (S := fun k => w.heap.size < k) (op := 9) (by omega) ba40 ou5241 oub41 hb40) ?_
            rintro _ v42 ⟨u56, rfl, oo42, cc42⟩
            have rd43 := rd41.keep cc42
            have cw43 := cw41.trans (toB cc42 _)
            have cb43 := cb41.trans (toB cc42 _)
            have br43 := cc42.blk br41 (fun x => x)
            have oup43 := oup41.keepN cc42
            have oua43 := oua41.keepN cc42
            have ou4443 := ou4441.keepN cc42
            have ou4743 := ou4741.keepN cc42
            have ou5043 := ou5041.keepN cc42
            have ou5243 := ou5241.keepN cc42
            have oub43 := oub41.keepN cc42
            have bg4343 := cc42.blk bg4341 (fun x => x)
            have bg4643 := cc42.blk bg4641 (fun x => x)
            have bg4943 := cc42.blk bg4941 (fun x => x)
            have bg5143 := cc42.blk bg5141 (fun x => x)
            have bg5543 := cc42.blk ba40 (fun x => x)
            have sz43 := cw43.size
            refine agg4 ?_
            refine ⟨⟨cb43.size, fun b hb hs => cb43.block b hb (fun e => hs (.inl e))⟩, ?_⟩
            have ca44 := chg_alloc v42 (.cells #[.int .i8 u47.op, .int .i8 u47.f, .int .u64 u47.n, .slice u47.b u47.m u47.c, .int .i8 u56.op, .int .i8 u56.f, .int .u64 u56.n, .slice u56.b u56.m u56.c] 26) NoS
            have ba44 := blk_alloc v42 (.cells #[.int .i8 u47.op, .int .i8 u47.f, .int .u64 u47.n, .slice u47.b u47.m u47.c, .int .i8 u56.op, .int .i8 u56.f, .int .u64 u56.n, .slice u56.b u56.m u56.c] 26)
            generalize v42.alloc (.cells #[.int .i8 u47.op, .int .i8 u47.f, .int .u64 u47.n, .slice u47.b u47.m u47.c, .int .i8 u56.op, .int .i8 u56.f, .int .u64 u56.n, .slice u56.b u56.m u56.c] 26) = v44 at ca44 ba44 ⊢
            have hb44 : w.heap.size < v42.heap.size := lt_of_blk br43
            have rd45 := rd43.keep ca44
            have cw45 := cw43.trans (toB ca44 _)
            have cb45 := cb43.trans (toB ca44 _)
            have br45 := ca44.blk br43 (fun x => x)
            have oup45 := oup43.keepN ca44
            have oua45 := oua43.keepN ca44
            have ou4445 := ou4443.keepN ca44
            have ou4745 := ou4743.keepN ca44
            have ou5045 := ou5043.keepN ca44
            have ou5245 := ou5243.keepN ca44
            have oub45 := oub43.keepN ca44
            have ou5645 := oo42.keepN ca44
            have bg4345 := ca44.blk bg4343 (fun x => x)
            have bg4645 := ca44.blk bg4643 (fun x => x)
            have bg4945 := ca44.blk bg4943 (fun x => x)
            have bg5145 := ca44.blk bg5143 (fun x => x)
            have bg5545 := ca44.blk bg5543 (fun x => x)
            have sz45 := cw45.size
            refine ⟨⟨cb45.size, fun b hb hs => cb45.block b hb (fun e => hs (.inl e))⟩, ?_⟩
            refine Calls.then (of2_ok (S := fun k => w.heap.size < k) (op := 8) (by omega) ba44 ou4745 ou5645 hb44) ?_
            rintro _ v46 ⟨u58, rfl, oo46, cc46⟩
            have rd47 := rd45.keep cc46
            have cw47 := cw45.trans (toB cc46 _)
            have cb47 := cb45.trans (toB cc46 _)
            have br47 := cc46.blk br45 (fun x => x)
            have oup47 := oup45.keepN cc46
            have oua47 := oua45.keepN cc46
            have ou4447 := ou4445.keepN cc46
            have ou4747 := ou4745.keepN cc46
            have ou5047 := ou5045.keepN cc46
            have ou5247 := ou5245.keepN cc46
            have oub47 := oub45.keepN cc46
            have ou5647 := ou5645.keepN cc46
            have bg4347 := cc46.blk bg4345 (fun x => x)
            have bg4647 := cc46.blk bg4645 (fun x => x)
            have bg4947 := cc46.blk bg4945 (fun x => x)
            have bg5147 := cc46.blk bg5145 (fun x => x)
            have bg5547 := cc46.blk bg5545 (fun x => x)
            have bg5747 := cc46.blk ba44 (fun x => x)
            have sz47 := cw47.size
            refine agg4 ?_
            refine ⟨⟨cb47.size, fun b hb hs => cb47.block b hb (fun e => hs (.inl e))⟩, ?_⟩
            refine (putR (vs := [.int .i8 u58.op, .int .i8 u58.f, .int .u64 u58.n, .slice u58.b u58.m u58.c]) br47 cw47 (Nat.le_refl _) rfl (by simp [oneC]) fun w8 b8 cB8 c8 => ?_ : setsW _ _ _ _ _)
            have kb8 : Kept (fun k => k = q.b ∨ k = w.heap.size) wb w8 := kept_put cb47 c8 hwb
            refine ⟨kb8, _, get_blk b8 0 _ rfl, _, get_blk b8 1 _ rfl, _, get_blk b8 2 _ rfl, _, _, _, get_blk b8 3 _ rfl, ?_⟩
            exact fin_ret (S := fun k => w.heap.size < k) h oo46 (fun k hk => hk) rd47 cB8 c8 (ifok _ _ _ _ _ _ hp1 hw6 hp2 hw7 hp3)
        · -- 7 first
          have ca49 := chg_alloc v3 (.cells #[.int .i8 up.op, .int .i8 up.f, .int .u64 up.n, .slice up.b up.m up.c] 26) NoS
          have ba49 := blk_alloc v3 (.cells #[.int .i8 up.op, .int .i8 up.f, .int .u64 up.n, .slice up.b up.m up.c] 26)
          generalize v3.alloc (.cells #[.int .i8 up.op, .int .i8 up.f, .int .u64 up.n, .slice up.b up.m up.c] 26) = v49 at ca49 ba49 ⊢
          have hb49 : w.heap.size < v3.heap.size := lt_of_blk br4
          have rd50 := rd4.keep ca49
          have cw50 := cw4.trans (toB ca49 _)
          have cb50 := cb4.trans (toB ca49 _)
          have br50 := ca49.blk br4 (fun x => x)
          have oup50 := oup4.keepN ca49
          have oua50 := oua4.keepN ca49
          have ou4450 := oo3.keepN ca49
          have bg4350 := ca49.blk bg434 (fun x => x)
          have sz50 := cw50.size
          refine ⟨⟨cb50.size, fun b hb hs => cb50.block b hb (fun e => hs (.inl e))⟩, ?_⟩
          have ca51 := chg_alloc v49 (.cells #[.int .i8 u44.op, .int .i8 u44.f, .int .u64 u44.n, .slice u44.b u44.m u44.c, .int .i8 ua.op, .int .i8 ua.f, .int .u64 ua.n, .slice ua.b ua.m ua.c] 26) NoS
          have ba51 := blk_alloc v49 (.cells #[.int .i8 u44.op, .int .i8 u44.f, .int .u64 u44.n, .slice u44.b u44.m u44.c, .int .i8 ua.op, .int .i8 ua.f, .int .u64 ua.n, .slice ua.b ua.m ua.c] 26)
          generalize v49.alloc (.cells #[.int .i8 u44.op, .int .i8 u44.f, .int .u64 u44.n, .slice u44.b u44.m u44.c, .int .i8 ua.op, .int .i8 ua.f, .int .u64 ua.n, .slice ua.b ua.m ua.c] 26) = v51 at ca51 ba51 ⊢
          have hb51 : w.heap.size < v49.heap.size := lt_of_blk br50
          have rd52 := rd50.keep ca51
          have cw52 := cw50.trans (toB ca51 _)
          have cb52 := cb50.trans (toB ca51 _)
          have br52 := ca51.blk br50 (fun x => x)
          have oup52 := oup50.keepN ca51
          have oua52 := oua50.keepN ca51
          have ou4452 := ou4450.keepN ca51
          have bg4352 := ca51.blk bg4350 (fun x => x)
          have bg4952 := ca51.blk ba49 (fun x => x)
          have sz52 := cw52.size
          refine ⟨⟨cb52.size, fun b hb hs => cb52.block b hb (fun e => hs (.inl e))⟩, ?_⟩
          refine Calls.then (of2_ok (S := fun k => w.heap.size < k) (op := 9) (by omega) ba51 ou4452 oua52 hb51) ?_
          rintro _ v53 ⟨u47, rfl, oo53, cc53⟩
          have rd54 := rd52.keep cc53
          have cw54 := cw52.trans (toB cc53 _)
          have cb54 := cb52.trans (toB cc53 _)
          have br54 := cc53.blk br52 (fun x => x)
          have oup54 := oup52.keepN cc53
          have oua54 := oua52.keepN cc53
          have ou4454 := ou4452.keepN cc53
          have bg4354 := cc53.blk bg4352 (fun x => x)
          have bg4954 := cc53.blk bg4952 (fun x => x)
          have bg4654 := cc53.blk ba51 (fun x => x)
          have sz54 := cw54.size
          refine agg4 ?_
          refine ⟨⟨cb54.size, fun b hb hs => cb54.block b hb (fun e => hs (.inl e))⟩, ?_⟩
          refine Calls.then (of1_ok (S := fun k => w.heap.size < k) (op := 3) (by omega) bg4954 oup54 hb49) ?_
          rintro _ v55 ⟨u50, rfl, oo55, cc55⟩
          have rd56 := rd54.keep cc55
          have cw56 := cw54.trans (toB cc55 _)
          have cb56 := cb54.trans (toB cc55 _)
          have br56 := cc55.blk br54 (fun x => x)
          have oup56 := oup54.keepN cc55
          have oua56 := oua54.keepN cc55
          have ou4456 := ou4454.keepN cc55
          have ou4756 := oo53.keepN cc55
          have bg4356 := cc55.blk bg4354 (fun x => x)
          have bg4956 := cc55.blk bg4954 (fun x => x)
          have bg4656 := cc55.blk bg4654 (fun x => x)
          have sz56 := cw56.size
          refine agg4 ?_
          refine ⟨⟨cb56.size, fun b hb hs => cb56.block b hb (fun e => hs (.inl e))⟩, ?_⟩
          have ca57 := chg_alloc v55 (.cells #[.int .i8 u50.op, .int .i8 u50.f, .int .u64 u50.n, .slice u50.b u50.m u50.c] 26) NoS
          have ba57 := blk_alloc v55 (.cells #[.int .i8 u50.op, .int .i8 u50.f, .int .u64 u50.n, .slice u50.b u50.m u50.c] 26)
          generalize v55.alloc (.cells #[.int .i8 u50.op, .int .i8 u50.f, .int .u64 u50.n, .slice u50.b u50.m u50.c] 26) = v57 at ca57 ba57 ⊢
          have hb57 : w.heap.size < v55.heap.size := lt_of_blk br56
          have rd58 := rd56.keep ca57
          have cw58 := cw56.trans (toB ca57 _)
          have cb58 := cb56.trans (toB ca57 _)
          have br58 := ca57.blk br56 (fun x => x)
          have oup58 := oup56.keepN ca57
          have oua58 := oua56.keepN ca57
          have ou4458 := ou4456.keepN ca57
          have ou4758 := ou4756.keepN ca57
          have ou5058 := oo55.keepN ca57
          have bg4358 := ca57.blk bg4356 (fun x => x)
          have bg4958 := ca57.blk bg4956 (fun x => x)
          have bg4658 := ca57.blk bg4656 (fun x => x)
          have sz58 := cw58.size
          refine ⟨⟨cb58.size, fun b hb hs => cb58.block b hb (fun e => hs (.inl e))⟩, ?_⟩
          refine Calls.then (of1_ok (S := fun k => w.heap.size < k) (op := 6) (by omega) ba57 ou5058 hb57) ?_
          rintro _ v59 ⟨u52, rfl, oo59, cc59⟩
          have rd60 := rd58.keep cc59
          have cw60 := cw58.trans (toB cc59 _)
          have cb60 := cb58.trans (toB cc59 _)
          have br60 := cc59.blk br58 (fun x => x)
          have oup60 := oup58.keepN cc59
          have oua60 := oua58.keepN cc59
          have ou4460 := ou4458.keepN cc59
          have ou4760 := ou4758.keepN cc59
          have ou5060 := ou5058.keepN cc59
          have bg4360 := cc59.blk bg4358 (fun x => x)
          have bg4960 := cc59.blk bg4958 (fun x => x)
          have bg4660 := cc59.blk bg4658 (fun x => x)
          have bg5160 := cc59.blk ba57 (fun x => x)
          have sz60 := cw60.size
          refine agg4 ?_
          refine ⟨⟨cb60.size, fun b hb hs => cb60.block b hb (fun e => hs (.inl e))⟩, ?_⟩
          refine Calls.thenP (hpol _ (by omega) v59 rd60) ?_ fun c w' hb => BadP.from hb cw60 fun j hj => ifbad2 _ _ _ _ hp1 hw6 hp2 hw7 hj
          rintro _ v61 ⟨tb, jb, ub, hp3, rfl, hub61, rdp61, cp61⟩
          have hlw61 : w.heap.size < v59.heap.size := lt_of_blk br60
          have cw62 := cw60.trans cp61
          have cb62 := cb60.trans cp61
          have br62 := cp61.blk br60 hbl
          have oup62 := oup60.keep (T := fun k => w.heap.size < k) cp61 (fun b hb e => by have : b = q.b := e; omega) fun b hb => hb
          have oua62 := oua60.keep (T := fun k => w.heap.size < k) cp61 (fun b hb e => by have : b = q.b := e; omega) fun b hb => hb
          have ou4462 := ou4460.keep (T := fun k => w.heap.size < k) cp61 (fun b hb e => by have : b = q.b := e; omega) fun b hb => hb
          have ou4762 := ou4760.keep (T := fun k => w.heap.size < k) cp61 (fun b hb e => by have : b = q.b := e; omega) fun b hb => hb
          have ou5062 := ou5060.keep (T := fun k => w.heap.size < k) cp61 (fun b hb e => by have : b = q.b := e; omega) fun b hb => hb
          have ou5262 := oo59.keep (T := fun k => w.heap.size < k) cp61 (fun b hb e => by have : b = q.b := e; omega) fun b hb => hb
          have bg4362 := cp61.blk bg4360 (fun e => by have e2 : wb.heap.size = q.b := e; omega)
          have bg4962 := cp61.blk bg4960 (fun e => by have e2 : v3.heap.size = q.b := e; omega)
          have bg4662 := cp61.blk bg4660 (fun e => by have e2 : v49.heap.size = q.b := e; omega)
          have bg5162 := cp61.blk bg5160 (fun e => by have e2 : v55.heap.size = q.b := e; omega)
          have sz62 := cw62.size
          have oub61 := hub61.mono (T := fun k => w.heap.size < k) fun b hb => by omega
          refine agg4 ?_
          refine ⟨⟨cb62.size, fun b hb hs => cb62.block b hb (fun e => hs (.inl e))⟩, ?_⟩
          have ca63 := chg_alloc v61 (.cells #[.int .i8 u52.op, .int .i8 u52.f, .int .u64 u52.n, .slice u52.b u52.m u52.c, .int .i8 ub.op, .int .i8 ub.f, .int .u64 ub.n, .slice ub.b ub.m ub.c] 26) NoS
          have ba63 := blk_alloc v61 (.cells #[.int .i8 u52.op, .int .i8 u52.f, .int .u64 u52.n, .slice u52.b u52.m u52.c, .int .i8 ub.op, .int .i8 ub.f, .int .u64 ub.n, .slice ub.b ub.m ub.c] 26)
          generalize v61.alloc (.cells #[.int .i8 u52.op, .int .i8 u52.f, .int .u64 u52.n, .slice u52.b u52.m u52.c, .int .i8 ub.op, .int .i8 ub.f, .int .u64 ub.n, .slice ub.b ub.m ub.c] 26) = v63 at ca63 ba63 ⊢
          have hb63 : w.heap.size < v61.heap.size := lt_of_blk br62
          have rd64 := rdp61.keep ca63
          have cw64 := cw62.trans (toB ca63 _)
          have cb64 := cb62.trans (toB ca63 _)
          have br64 := ca63.blk br62 (fun x => x)
          have oup64 := oup62.keepN ca63
          have oua64 := oua62.keepN ca63
          have ou4464 := ou4462.keepN ca63
          have ou4764 := ou4762.keepN ca63
          have ou5064 := ou5062.keepN ca63
          have ou5264 := ou5262.keepN ca63
          have oub64 := oub61.keepN ca63
          have bg4364 := ca63.blk bg4362 (fun x => x)
          have bg4964 := ca63.blk bg4962 (fun x => x)
          have bg4664 := ca63.blk bg4662 (fun x => x)
          have bg5164 := ca63.blk bg5162 (fun x => x)
          have sz64 := cw64.size
          refine ⟨⟨cb64.size, fun b hb hs => cb64.block b hb (fun e => hs (.inl e))⟩, ?_⟩
          refine Calls.then (of2_ok (S := fun k => w.heap.size < k) (op := 9) (by omega) ba63 ou5264 oub64 hb63) ?_
          rintro _ v65 ⟨u56, rfl, oo65, cc65⟩
          have rd66 := rd64.keep cc65
          have cw66 := cw64.trans (toB cc65 _)
          have cb66 := cb64.trans (toB cc65 _)
          have br66 := cc65.blk br64 (fun x => x)
          have oup66 := oup64.keepN cc65
          have oua66 := oua64.keepN cc65
          have ou4466 := ou4464.keepN cc65
          have ou4766 := ou4764.keepN cc65
          have ou5066 := ou5064.keepN cc65
          have ou5266 := ou5264.keepN cc65
          have oub66 := oub64.keepN cc65
          have bg4366 := cc65.blk bg4364 (fun x => x)
          have bg4966 := cc65.blk bg4964 (fun x => x)
          have bg4666 := cc65.blk bg4664 (fun x => x)
          have bg5166 := cc65.blk bg5164 (fun x => x)
          have bg5566 := cc65.blk ba63 (fun x => x)
          have sz66 := cw66.size
          refine agg4 ?_
          refine ⟨⟨cb66.size, fun b hb hs => cb66.block b hb (fun e => hs (.inl e))⟩, ?_⟩
          have ca67 := chg_alloc v65 (.cells #[.int .i8 u47.op, .int .i8 u47.f, .int .u64 u47.n, .slice u47.b u47.m u47.c, .int .i8 u56.op, .int .i8 u56.f, .int .u64 u56.n, .slice u56.b u56.m u56.c] 26) NoS
          have ba67 := blk_alloc v65 (.cells #[.int .i8 u47.op, .int .i8 u47.f, .int .u64 u47.n, .slice u47.b u47.m u47.c, .int .i8 u56.op, .int .i8 u56.f, .int .u64 u56.n, .slice u56.b u56.m u56.c] 26)
          generalize v65.alloc (.cells #[.int .i8 u47.op, .int .i8 u47.f, .int .u64 u47.n, .slice u47.b u47.m u47.c, .int .i8 u56.op, .int .i8 u56.f, .int .u64 u56.n, .slice u56.b u56.m u56.c] 26) = v67 at ca67 ba67 ⊢
          have hb67 : w.heap.size < v65.heap.size := lt_of_blk br66
          have rd68 := rd66.keep ca67
          have cw68 := cw66.trans (toB ca67 _)
          have cb68 := cb66.trans (toB ca67 _)
          have br68 := ca67.blk br66 (fun x => x)
          have oup68 := oup66.keepN ca67
          have oua68 := oua66.keepN ca67
          have ou4468 := ou4466.keepN ca67
          have ou4768 := ou4766.keepN ca67
          have ou5068 := ou5066.keepN ca67
          have ou5268 := ou5266.keepN ca67
          have oub68 := oub66.keepN ca67
          have ou5668 := oo65.keepN ca67
          have bg4368 := ca67.blk bg4366 (fun x => x)
          have bg4968 := ca67.blk bg4966 (fun x => x)
          have bg4668 := ca67.blk bg4666 (fun x => x)
          have bg5168 := ca67.blk bg5166 (fun x => x)
          have bg5568 := ca67.blk bg5566 (fun x => x)
          have sz68 := cw68.size
          refine ⟨⟨cb68.size, fun b hb hs => cb68.block b hb (fun e => hs (.inl e))⟩, ?_⟩
          refine Calls.then (of2_ok (S := fun k => w.heap.size < k) (op := 8) (by omega) ba67 ou4768 ou5668 hb67) ?_
          rintro _ v69 ⟨u58, rfl, oo69, cc69⟩
          have rd70 := rd68.keep cc69
          have cw70 := cw68.trans (toB cc69 _)
          have cb70 := cb68.trans (toB cc69 _)
          have br70 := cc69.blk br68 (fun x => x)
          have oup70 := oup68.keepN cc69
          have oua70 := oua68.keepN cc69
          have ou4470 := ou4468.keepN cc69
          have ou4770 := ou4768.keepN cc69
          have ou5070 := ou5068.keepN cc69
          have ou5270 := ou5268.keepN cc69
          have oub70 := oub68.keepN cc69
          have ou5670 := ou5668.keepN cc69
          have bg4370 := cc69.blk bg4368 (fun x => x)
          have bg4970 := cc69.blk bg4968 (fun x => x)
          have bg4670 := cc69.blk bg4668 (fun x => x)
          have bg5170 := cc69.blk bg5168 (fun x => x)
          have bg5570 := cc69.blk bg5568 (fun x => x)
          have bg5770 := cc69.blk ba67 (fun x => x)
          have sz70 := cw70.size
          refine agg4 ?_
          refine ⟨⟨cb70.size, fun b hb hs => cb70.block b hb (fun e => hs (.inl e))⟩, ?_⟩
          refine (putR (vs := [.int .i8 u58.op, .int .i8 u58.f, .int .u64 u58.n, .slice u58.b u58.m u58.c]) br70 cw70 (Nat.le_refl _) rfl (by simp [oneC]) fun w8 b8 cB8 c8 => ?_ : setsW _ _ _ _ _)
          have kb8 : Kept (fun k => k = q.b ∨ k = w.heap.size) wb w8 := kept_put cb70 c8 hwb
          refine ⟨kb8, _, get_blk b8 0 _ rfl, _, get_blk b8 1 _ rfl, _, get_blk b8 2 _ rfl, _, _, _, get_blk b8 3 _ rfl, ?_⟩
          exact fin_ret (S := fun k => w.heap.size < k) h oo69 (fun k hk => hk) rd70 cB8 c8 (ifok _ _ _ _ _ _ hp1 hw6 hp2 hw7 hp3)
      · -- 7 first
        have ca72 := chg_alloc v1 (.cells #[.int .i8 up.op, .int .i8 up.f, .int .u64 up.n, .slice up.b up.m up.c] 26) NoS
        have ba72 := blk_alloc v1 (.cells #[.int .i8 up.op, .int .i8 up.f, .int .u64 up.n, .slice up.b up.m up.c] 26)
        generalize v1.alloc (.cells #[.int .i8 up.op, .int .i8 up.f, .int .u64 up.n, .slice up.b up.m up.c] 26) = v72 at ca72 ba72 ⊢
        have hb72 : w.heap.size < v1.heap.size := lt_of_blk br2
        have rd73 := rd2.keep ca72
        have cw73 := cw2.trans (toB ca72 _)
        have cb73 := cb2.trans (toB ca72 _)
        have br73 := ca72.blk br2 (fun x => x)
        have oup73 := oup2.keepN ca72
        have oua73 := oua2.keepN ca72
        have bg4373 := ca72.blk ba1 (fun x => x)
        have sz73 := cw73.size
        refine ⟨⟨cb73.size, fun b hb hs => cb73.block b hb (fun e => hs (.inl e))⟩, ?_⟩
        refine Calls.then (of1_ok (S := fun k => w.heap.size < k) (op := 6) (by omega) bg4373 oup73 hb1) ?_
        rintro _ v74 ⟨u44, rfl, oo74, cc74⟩
        have rd75 := rd73.keep cc74
        have cw75 := cw73.trans (toB cc74 _)
        have cb75 := cb73.trans (toB cc74 _)
        have br75 := cc74.blk br73 (fun x => x)
        have oup75 := oup73.keepN cc74
        have oua75 := oua73.keepN cc74
        have bg4375 := cc74.blk bg4373 (fun x => x)
        have bg4975 := cc74.blk ba72 (fun x => x)
        have sz75 := cw75.size
        refine agg4 ?_
        refine ⟨⟨cb75.size, fun b hb hs => cb75.block b hb (fun e => hs (.inl e))⟩, ?_⟩
        have ca76 := chg_alloc v74 (.cells #[.int .i8 u44.op, .int .i8 u44.f, .int .u64 u44.n, .slice u44.b u44.m u44.c, .int .i8 ua.op, .int .i8 ua.f, .int .u64 ua.n, .slice ua.b ua.m ua.c] 26) NoS
        have ba76 := blk_alloc v74 (.cells #[.int .i8 u44.op, .int .i8 u44.f, .int .u64 u44.n, .slice u44.b u44.m u44.c, .int .i8 ua.op, .int .i8 ua.f, .int .u64 ua.n, .slice ua.b ua.m ua.c] 26)
        generalize v74.alloc (.cells #[.int .i8 u44.op, .int .i8 u44.f, .int .u64 u44.n, .slice u44.b u44.m u44.c, .int .i8 ua.op, .int .i8 ua.f, .int .u64 ua.n, .slice ua.b ua.m ua.c] 26) = v76 at ca76 ba76 ⊢
        have hb76 : w.heap.size < v74.heap.size := lt_of_blk br75
        have rd77 := rd75.keep ca76
        have cw77 := cw75.trans (toB ca76 _)
        have cb77 := cb75.trans (toB ca76 _)
        have br77 := ca76.blk br75 (fun x => x)
        have oup77 := oup75.keepN ca76
        have oua77 := oua75.keepN ca76
        have ou4477 := oo74.keepN ca76
        have bg4377 := ca76.blk bg4375 (fun x => x)
        have bg4977 := ca76.blk bg4975 (fun x => x)
        have sz77 := cw77.size
        refine ⟨⟨cb77.size, fun b hb hs => cb77.block b hb (fun e => hs (.inl e))⟩, ?_⟩
        refine Calls.then (of2_ok (S := fun k => w.heap.size < k) (op := 9) (by omega) ba76 ou4477 oua77 hb76) ?_
        rintro _ v78 ⟨u47, rfl, oo78, cc78⟩
        have rd79 := rd77.keep cc78
        have cw79 := cw77.trans (toB cc78 _)
        have cb79 := cb77.trans (toB cc78 _)
        have br79 := cc78.blk br77 (fun x => x)
        have oup79 := oup77.keepN cc78
        have oua79 := oua77.keepN cc78
        have ou4479 := ou4477.keepN cc78
        have bg4379 := cc78.blk bg4377 (fun x => x)
        have bg4979 := cc78.blk bg4977 (fun x => x)
        have bg4679 := cc78.blk ba76 (fun x => x)
        have sz79 := cw79.size
        refine agg4 ?_
        refine ⟨⟨cb79.size, fun b hb hs => cb79.block b hb (fun e => hs (.inl e))⟩, ?_⟩
        refine Calls.then (of1_ok (S := fun k => w.heap.size < k) (op := 3) (by omega) bg4979 oup79 hb72) ?_
        rintro _ v80 ⟨u50, rfl, oo80, cc80⟩
        have rd81 := rd79.keep cc80
        have cw81 := cw79.trans (toB cc80 _)
        have cb81 := cb79.trans (toB cc80 _)
        have br81 := cc80.blk br79 (fun x => x)
        have oup81 := oup79.keepN cc80
        have oua81 := oua79.keepN cc80
        have ou4481 := ou4479.keepN cc80
        have ou4781 := oo78.keepN cc80
        have bg4381 := cc80.blk bg4379 (fun x => x)
        have bg4981 := cc80.blk bg4979 (fun x => x)
        have bg4681 := cc80.blk bg4679 (fun x => x)
        have sz81 := cw81.size
        refine agg4 ?_
        refine ⟨⟨cb81.size, fun b hb hs => cb81.block b hb (fun e => hs (.inl e))⟩, ?_⟩
        have ca82 := chg_alloc v80 (.cells #[.int .i8 u50.op, .int .i8 u50.f, .int .u64 u50.n, .slice u50.b u50.m u50.c] 26) NoS
        have ba82 := blk_alloc v80 (.cells #[.int .i8 u50.op, .int .i8 u50.f, .int .u64 u50.n, .slice u50.b u50.m u50.c] 26)
        generalize v80.alloc (.cells #[.int .i8 u50.op, .int .i8 u50.f, .int .u64 u50.n, .slice u50.b u50.m u50.c] 26) = v82 at ca82 ba82 ⊢
        have hb82 : w.heap.size < v80.heap.size := lt_of_blk br81
        have rd83 := rd81.keep ca82
        have cw83 := cw81.trans (toB ca82 _)
        have cb83 := cb81.trans (toB ca82 _)
        have br83 := ca82.blk br81 (fun x => x)
        have oup83 := oup81.keepN ca82
        have oua83 := oua81.keepN ca82
        have ou4483 := ou4481.keepN ca82
        have ou4783 := ou4781.keepN ca82
        have ou5083 := oo80.keepN ca82
        have bg4383 := ca82.blk bg4381 (fun x => x)
        have bg4983 := ca82.blk bg4981 (fun x => x)
        have bg4683 := ca82.blk bg4681 (fun x => x)
        have sz83 := cw83.size
        refine ⟨⟨cb83.size, fun b hb hs => cb83.block b hb (fun e => hs (.inl e))⟩, ?_⟩
        refine Calls.then (of1_ok (S := fun k => w.heap.size < k) (op := 6) (by omega) ba82 ou5083 hb82) ?_
        rintro _ v84 ⟨u52, rfl, oo84, cc84⟩
        have rd85 := rd83.keep cc84
        have cw85 := cw83.trans (toB cc84 _)
        have cb85 := cb83.trans (toB cc84 _)
        have br85 := cc84.blk br83 (fun x => x)
        have oup85 := oup83.keepN cc84
        have oua85 := oua83.keepN cc84
        have ou4485 := ou4483.keepN cc84
        have ou4785 := ou4783.keepN cc84
        have ou5085 := ou5083.keepN cc84
        have bg4385 := cc84.blk bg4383 (fun x => x)
        have bg4985 := cc84.blk bg4983 (fun x => x)
        have bg4685 := cc84.blk bg4683 (fun x => x)
        have bg5185 := cc84.blk ba82 (fun x => x)
        have sz85 := cw85.size
        refine agg4 ?_
        refine ⟨⟨cb85.size, fun b hb hs => cb85.block b hb (fun e => hs (.inl e))⟩, ?_⟩
        refine Calls.thenP (hpol _ (by omega) v84 rd85) ?_ fun c w' hb => BadP.from hb cw85 fun j hj => ifbad2 _ _ _ _ hp1 hw6 hp2 hw7 hj
        rintro _ v86 ⟨tb, jb, ub, hp3, rfl, hub86, rdp86, cp86⟩
        have hlw86 : w.heap.size < v84.heap.size := lt_of_blk br85
        have cw87 := cw85.trans cp86
        have cb87 := cb85.trans cp86
        have br87 := cp86.blk br85 hbl
        have oup87 := oup85.keep (T := fun k => w.heap.size < k) cp86 (fun b hb e => by have : b = q.b := e; omega) fun b hb => hb
        have oua87 := oua85.keep (T := fun k => w.heap.size < k) cp86 (fun b hb e => by have : b = q.b := e; omega) fun b hb => hb
        have ou4487 := ou4485.keep (T := fun k => w.heap.size < k) cp86 (fun b hb e => by have : b = q.b := e; omega) fun b hb => hb
        have ou4787 := ou4785.keep (T := fun k => w.heap.size < k) cp86 (fun b hb e => by have : b = q.b := e; omega) fun b hb => hb
        have ou5087 := ou5085.keep (T := fun k => w.heap.size < k) cp86 (fun b hb e => by have : b = q.b := e; omega) fun b hb => hb
        have ou5287 := oo84.keep (T := fun k => w.heap.size < k) cp86 (fun b hb e => by have : b = q.b := e; omega) fun b hb => hb
        have bg4387 := cp86.blk bg4385 (fun e => by have e2 : wb.heap.size = q.b := e; omega)
        have bg4987 := cp86.blk bg4985 (fun e => by have e2 : v1.heap.size = q.b := e; omega)
        have bg4687 := cp86.blk bg4685 (fun e => by have e2 : v74.heap.size = q.b := e; omega)
        have bg5187 := cp86.blk bg5185 (fun e => by have e2 : v80.heap.size = q.b := e; omega)
        have sz87 := cw87.size
        have oub86 := hub86.mono (T := fun k => w.heap.size < k) fun b hb => by omega
        refine agg4 ?_
        refine ⟨⟨cb87.size, fun b hb hs => cb87.block b hb (fun e => hs (.inl e))⟩, ?_⟩
        have ca88 := chg_alloc v86 (.cells #[.int .i8 u52.op, .int .i8 u52.f, .int .u64 u52.n, .slice u52.b u52.m u52.c, .int .i8 ub.op, .int .i8 ub.f, .int .u64 ub.n, .slice ub.b ub.m ub.c] 26) NoS
        have ba88 := blk_alloc v86 (.cells #[.int .i8 u52.op, .int .i8 u52.f, .int .u64 u52.n, .slice u52.b u52.m u52.c, .int .i8 ub.op, .int .i8 ub.f, .int .u64 ub.n, .slice ub.b ub.m ub.c] 26)
        generalize v86.alloc (.cells #[.int .i8 u52.op, .int .i8 u52.f, .int .u64 u52.n, .slice u52.b u52.m u52.c, .int .i8 ub.op, .int .i8 ub.f, .int .u64 ub.n, .slice ub.b ub.m ub.c] 26) = v88 at ca88 ba88 ⊢
        have hb88 : w.heap.size < v86.heap.size := lt_of_blk br87
        have rd89 := rdp86.keep ca88
        have cw89 := cw87.trans (toB ca88 _)
        have cb89 := cb87.trans (toB ca88 _)
        have br89 := ca88.blk br87 (fun x => x)
        have oup89 := oup87.keepN ca88
        have oua89 := oua87.keepN ca88
        have ou4489 := ou4487.keepN ca88
        have ou4789 := ou4787.keepN ca88
        have ou5089 := ou5087.keepN ca88
        have ou5289 := ou5287.keepN ca88
        have oub89 := oub86.keepN ca88
        have bg4389 := ca88.blk bg4387 (fun x => x)
        have bg4989 := ca88.blk bg4987 (fun x => x)
        have bg4689 := ca88.blk bg4687 (fun x => x)
        have bg5189 := ca88.blk bg5187 (fun x => x)
        have sz89 := cw89.size
        refine ⟨⟨cb89.size, fun b hb hs => cb89.block b hb (fun e => hs (.inl e))⟩, ?_⟩
        refine Calls.then (of2_ok (S := fun k => w.heap.size < k) (op := 9) (by omega) ba88 ou5289 oub89 hb88) ?_
        rintro _ v90 ⟨u56, rfl, oo90, cc90⟩
        have rd91 := rd89.keep cc90
        have cw91 := cw89.trans (toB cc90 _)
        have cb91 := cb89.trans (toB cc90 _)
        have br91 := cc90.blk br89 (fun x => x)
        have oup91 := oup89.keepN cc90
        have oua91 := oua89.keepN cc90
        have ou4491 := ou4489.keepN cc90
        have ou4791 := ou4789.keepN cc90
        have ou5091 := ou5089.keepN cc90
        have ou5291 := ou5289.keepN cc90
        have oub91 := oub89.keepN cc90
        have bg4391 := cc90.blk bg4389 (fun x => x)
        have bg4991 := cc90.blk bg4989 (fun x => x)
        have bg4691 := cc90.blk bg4689 (fun x => x)
        have bg5191 := cc90.blk bg5189 (fun x => x)
        have bg5591 := cc90.blk ba88 (fun x => x)
        have sz91 := cw91.size
        refine agg4 ?_
        refine ⟨⟨cb91.size, fun b hb hs => cb91.block b hb (fun e => hs (.inl e))⟩, ?_⟩
        have ca92 := chg_alloc v90 (.cells #[.int .i8 u47.op, .int .i8 u47.f, .int .u64 u47.n, .slice u47.b u47.m u47.c, .int .i8 u56.op, .int .i8 u56.f, .int .u64 u56.n, .slice u56.b u56.m u56.c] 26) NoS
        have ba92 := blk_alloc v90 (.cells #[.int .i8 u47.op, .int .i8 u47.f, .int .u64 u47.n, .slice u47.b u47.m u47.c, .int .i8 u56.op, .int .i8 u56.f, .int .u64 u56.n, .slice u56.b u56.m u56.c] 26)
        generalize v90.alloc (.cells #[.int .i8 u47.op, .int .i8 u47.f, .int .u64 u47.n, .slice u47.b u47.m u47.c, .int .i8 u56.op, .int .i8 u56.f, .int .u64 u56.n, .slice u56.b u56.m u56.c] 26) = v92 at ca92 ba92 ⊢
        have hb92 : w.heap.size < v90.heap.size := lt_of_blk br91
        have rd93 := rd91.keep ca92
        have cw93 := cw91.trans (toB ca92 _)
        have cb93 := cb91.trans (toB ca92 _)
        have br93 := ca92.blk br91 (fun x => x)
        have oup93 := oup91.keepN ca92
        have oua93 := oua91.keepN ca92
        have ou4493 := ou4491.keepN ca92
        have ou4793 := ou4791.keepN ca92
        have ou5093 := ou5091.keepN ca92
        have ou5293 := ou5291.keepN ca92
        have oub93 := oub91.keepN ca92
        have ou5693 := oo90.keepN ca92
        have bg4393 := ca92.blk bg4391 (fun x => x)
        have bg4993 := ca92.blk bg4991 (fun x => x)
        have bg4693 := ca92.blk bg4691 (fun x => x)
        have bg5193 := ca92.blk bg5191 (fun x => x)
        have bg5593 := ca92.blk bg5591 (fun x => x)
        have sz93 := cw93.size
        refine ⟨⟨cb93.size, fun b hb hs => cb93.block b hb (fun e => hs (.inl e))⟩, ?_⟩
        refine Calls.then (of2_ok (S := fun k => w.heap.size < k) (op := 8) (by omega) ba92 ou4793 ou5693 hb92) ?_
        rintro _ v94 ⟨u58, rfl, oo94, cc94⟩
        have rd95 := rd93.keep cc94
        have cw95 := cw93.trans (toB cc94 _)
        have cb95 := cb93.trans (toB cc94 _)
        have br95 := cc94.blk br93 (fun x => x)
        have oup95 := oup93.keepN cc94
        have oua95 := oua93.keepN cc94
        have ou4495 := ou4493.keepN cc94
        have ou4795 := ou4793.keepN cc94
        have ou5095 := ou5093.keepN cc94
        have ou5295 := ou5293.keepN cc94
        have oub95 := oub93.keepN cc94
        have ou5695 := ou5693.keepN cc94
        have bg4395 := cc94.blk bg4393 (fun x => x)
        have bg4995 := cc94.blk bg4993 (fun x => x)
        have bg4695 := cc94.blk bg4693 (fun x => x)
        have bg5195 := cc94.blk bg5193 (fun x => x)
        have bg5595 := cc94.blk bg5593 (fun x => x)
        have bg5795 := cc94.blk ba92 (fun x => x)
        have sz95 := cw95.size
        refine agg4 ?_
        refine ⟨⟨cb95.size, fun b hb hs => cb95.block b hb (fun e => hs (.inl e))⟩, ?_⟩
        refine (putR (vs := [.int .i8 u58.op, .int .i8 u58.f, .int .u64 u58.n, .slice u58.b u58.m u58.c]) br95 cw95 (Nat.le_refl _) rfl (by simp [oneC]) fun w8 b8 cB8 c8 => ?_ : setsW _ _ _ _ _)
        have kb8 : Kept (fun k => k = q.b ∨ k = w.heap.size) wb w8 := kept_put cb95 c8 hwb
        refine ⟨kb8, _, get_blk b8 0 _ rfl, _, get_blk b8 1 _ rfl, _, get_blk b8 2 _ rfl, _, _, _, get_blk b8 3 _ rfl, ?_⟩
        exact fin_ret (S := fun k => w.heap.size < k) h oo94 (fun k hk => hk) rd95 cB8 c8 (ifok _ _ _ _ _ _ hp1 hw6 hp2 hw7 hp3)
    · -- 7 first
      have ca97 := chg_alloc wb (.cells #[.int .i8 up.op, .int .i8 up.f, .int .u64 up.n, .slice up.b up.m up.c] 26) NoS
      have ba97 := blk_alloc wb (.cells #[.int .i8 up.op, .int .i8 up.f, .int .u64 up.n, .slice up.b up.m up.c] 26)
      generalize wb.alloc (.cells #[.int .i8 up.op, .int .i8 up.f, .int .u64 up.n, .slice up.b up.m up.c] 26) = v97 at ca97 ba97 ⊢
      have hb97 : w.heap.size < wb.heap.size := lt_of_blk rd
      have rd98 := hr11.keep ca97
      have cw98 := cBd.trans (toB ca97 _)
      have cb98 := cb0.trans (toB ca97 _)
      have br98 := ca97.blk rd (fun x => x)
      have oup98 := oup.keepN ca97
      have oua98 := oua.keepN ca97
      have sz98 := cw98.size
      refine ⟨⟨cb98.size, fun b hb hs => cb98.block b hb (fun e => hs (.inl e))⟩, ?_⟩
      have ca99 := chg_alloc v97 (.cells #[.int .i8 up.op, .int .i8 up.f, .int .u64 up.n, .slice up.b up.m up.c] 26) NoS
      have ba99 := blk_alloc v97 (.cells #[.int .i8 up.op, .int .i8 up.f, .int .u64 up.n, .slice up.b up.m up.c] 26)
      generalize v97.alloc (.cells #[.int .i8 up.op, .int .i8 up.f, .int .u64 up.n, .slice up.b up.m up.c] 26) = v99 at ca99 ba99 ⊢
      have hb99 : w.heap.size < v97.heap.size := lt_of_blk br98
      have rd100 := rd98.keep ca99
      have cw100 := cw98.trans (toB ca99 _)
      have cb100 := cb98.trans (toB ca99 _)
      have br100 := ca99.blk br98 (fun x => x)
      have oup100 := oup98.keepN ca99
      have oua100 := oua98.keepN ca99
      have bg49100 := ca99.blk ba97 (fun x => x)
      have sz100 := cw100.size
      refine ⟨⟨cb100.size, fun b hb hs => cb100.block b hb (fun e => hs (.inl e))⟩, ?_⟩
      refine Calls.then (of1_ok (S := fun k => w.heap.size < k) (op := 6) (by omega) ba99 oup100 hb99) ?_
      rintro _ v101 ⟨u44, rfl, oo101, cc101⟩
      have rd102 := rd100.keep cc101
      have cw102 := cw100.trans (toB cc101 _)
      have cb102 := cb100.trans (toB cc101 _)
      have br102 := cc101.blk br100 (fun x => x)
      have oup102 := oup100.keepN cc101
      have oua102 := oua100.keepN cc101
      have bg49102 := cc101.blk bg49100 (fun x => x)
      have bg43102 := cc101.blk ba99 (fun x => x)
      have sz102 := cw102.size
      refine agg4 ?_
      refine ⟨⟨cb102.size, fun b hb hs => cb102.block b hb (fun e => hs (.inl e))⟩, ?_⟩
      have ca103 := chg_alloc v101 (.cells #[.int .i8 u44.op, .int .i8 u44.f, .int .u64 u44.n, .slice u44.b u44.m u44.c, .int .i8 ua.op, .int .i8 ua.f, .int .u64 ua.n, .slice ua.b ua.m ua.c] 26) NoS
      have ba103 := blk_alloc v101 (.cells #[.int .i8 u44.op, .int .i8 u44.f, .int .u64 u44.n, .slice u44.b u44.m u44.c, .int .i8 ua.op, .int .i8 ua.f, .int .u64 ua.n, .slice ua.b ua.m ua.c] 26)
      generalize v101.alloc (.cells #[.int .i8 u44.op, .int .i8 u44.f, .int .u64 u44.n, .slice u44.b u44.m u44.c, .int .i8 ua.op, .int .i8 ua.f, .int .u64 ua.n, .slice ua.b ua.m ua.c] 26) = v103 at ca103 ba103 ⊢
      have hb103 : w.heap.size < v101.heap.size := lt_of_blk br102
      have rd104 := rd102.keep ca103
      have cw104 := cw102.trans (toB ca103 _)
      have cb104 := cb102.trans (toB ca103 _)
      have br104 := ca103.blk br102 (fun x => x)
      have oup104 := oup102.keepN ca103
      have oua104 := oua102.keepN ca103
      have ou44104 := oo101.keepN ca103
      have bg49104 := ca103.blk bg49102 (fun x => x)
      have bg43104 := ca103.blk bg43102 (fun x => x)
      have sz104 := cw104.size
      refine ⟨⟨cb104.size, fun b hb hs => cb104.block b hb (fun e => hs (.inl e))⟩, ?_⟩
      refine Calls.then (of2_ok (S := fun k => w.heap.size < k) (op := 9) (by omega) ba103 ou44104 oua104 hb103) ?_
      rintro _ v105 ⟨u47, rfl, oo105, cc105⟩
      have rd106 := rd104.keep cc105
      have cw106 := cw104.trans (toB cc105 _)
      have cb106 := cb104.trans (toB cc105 _)
      have br106 := cc105.blk br104 (fun x => x)
      have oup106 := oup104.keepN cc105
      have oua106 := oua104.keepN cc105
      have ou44106 := ou44104.keepN cc105
      have bg49106 := cc105.blk bg49104 (fun x => x)
      have bg43106 := cc105.blk bg43104 (fun x => x)
      have bg46106 := cc105.blk ba103 (fun x => x)
      have sz106 := cw106.size
      refine agg4 ?_
      refine ⟨⟨cb106.size, fun b hb hs => cb106.block b hb (fun e => hs (.inl e))⟩, ?_⟩
      refine Calls.then (of1_ok (S := fun k => w.heap.size < k) (op := 3) (by omega) bg49106 oup106 hb97) ?_
      rintro _ v107 ⟨u50, rfl, oo107, cc107⟩
      have rd108 := rd106.keep cc107
      have cw108 := cw106.trans (toB cc107 _)
      have cb108 := cb106.trans (toB cc107 _)
      have br108 := cc107.blk br106 (fun x => x)
      have oup108 := oup106.keepN cc107
      have oua108 := oua106.keepN cc107
      have ou44108 := ou44106.keepN cc107
      have ou47108 := oo105.keepN cc107
      have bg49108 := cc107.blk bg49106 (fun x => x)
      have bg43108 := cc107.blk bg43106 (fun x => x)
      have bg46108 := cc107.blk bg46106 (fun x => x)
      have sz108 := cw108.size
      refine agg4 ?_
      refine ⟨⟨cb108.size, fun b hb hs => cb108.block b hb (fun e => hs (.inl e))⟩, ?_⟩
      have ca109 := chg_alloc v107 (.cells #[.int .i8 u50.op, .int .i8 u50.f, .int .u64 u50.n, .slice u50.b u50.m u50.c] 26) NoS
      have ba109 := blk_alloc v107 (.cells #[.int .i8 u50.op, .int .i8 u50.f, .int .u64 u50.n, .slice u50.b u50.m u50.c] 26)
      generalize v107.alloc (.cells #[.int .i8 u50.op, .int .i8 u50.f, .int .u64 u50.n, .slice u50.b u50.m u50.c] 26) = v109 at ca109 ba109 ⊢
      have hb109 : w.heap.size < v107.heap.size := lt_of_blk br108
      have rd110 := rd108.keep ca109
      have cw110 := cw108.trans (toB ca109 _)
      have cb110 := cb108.trans (toB ca109 _)
      have br110 := ca109.blk br108 (fun x => x)
      have oup110 := oup108.keepN ca109
      have oua110 := oua108.keepN ca109
      have ou44110 := ou44108.keepN ca109
      have ou47110 := ou47108.keepN ca109
      have ou50110 := oo107.keepN ca109
      have bg49110 := ca109.blk bg49108 (fun x => x)
      have bg43110 := ca109.blk bg43108 (fun x => x)
      have bg46110 := ca109.blk bg46108 (fun x => x)
      have sz110 := cw110.size
      refine ⟨⟨cb110.size, fun b hb hs => cb110.block b hb (fun e => hs (.inl e))⟩, ?_⟩
      refine Calls.then (of1_ok (S := fun k => w.heap.size < k) (op := 6) (by omega) ba109 ou50110 hb109) ?_
      rintro _ v111 ⟨u52, rfl, oo111, cc111⟩
      have rd112 := rd110.keep cc111
      have cw112 := cw110.trans (toB cc111 _)
      have cb112 := cb110.trans (toB cc111 _)
      have br112 := cc111.blk br110 (fun x => x)
      have oup112 := oup110.keepN cc111
      have oua112 := oua110.keepN cc111
      have ou44112 := ou44110.keepN cc111
      have ou47112 := ou47110.keepN cc111
      have ou50112 := ou50110.keepN cc111
      have bg49112 := cc111.blk bg49110 (fun x => x)
      have bg43112 := cc111.blk bg43110 (fun x => x)
      have bg46112 := cc111.blk bg46110 (fun x => x)
      have bg51112 := cc111.blk ba109 (fun x => x)
      have sz112 := cw112.size
      refine agg4 ?_
      refine ⟨⟨cb112.size, fun b hb hs => cb112.block b hb (fun e => hs (.inl e))⟩, ?_⟩
      refine Calls.thenP (hpol _ (by omega) v111 rd112) ?_ fun c w' hb => BadP.from hb cw112 fun j hj => ifbad2 _ _ _ _ hp1 hw6 hp2 hw7 hj
      rintro _ v113 ⟨tb, jb, ub, hp3, rfl, hub113, rdp113, cp113⟩
      have hlw113 : w.heap.size < v111.heap.size := lt_of_blk br112
      have cw114 := cw112.trans cp113
      have cb114 := cb112.trans cp113
      have br114 := cp113.blk br112 hbl
      have oup114 := oup112.keep (T := fun k => w.heap.size < k) cp113 (fun b hb e => by have : b = q.b := e; omega) fun b hb => hb
      have oua114 := oua112.keep (T := fun k => w.heap.size < k) cp113 (fun b hb e => by have : b = q.b := e; omega) fun b hb => hb
      have ou44114 := ou44112.keep (T := fun k => w.heap.size < k) cp113 (fun b hb e => by have : b = q.b := e; omega) fun b hb => hb
      have ou47114 := ou47112.keep (T := fun k => w.heap.size < k) cp113 (fun b hb e => by have : b = q.b := e; omega) fun b hb => hb
      have ou50114 := ou50112.keep (T := fun k => w.heap.size < k) cp113 (fun b hb e => by have : b = q.b := e; omega) fun b hb => hb
      have ou52114 := oo111.keep (T := fun k => w.heap.size < k) cp113 (fun b hb e => by have : b = q.b := e; omega) fun b hb => hb
      have bg49114 := cp113.blk bg49112 (fun e => by have e2 : wb.heap.size = q.b := e; omega)
      have bg43114 := cp113.blk bg43112 (fun e => by have e2 : v97.heap.size = q.b := e; omega)
      have bg46114 := cp113.blk bg46112 (fun e => by have e2 : v101.heap.size = q.b := e; omega)
      have bg51114 := cp113.blk bg51112 (fun e => by have e2 : v107.heap.size = q.b := e; omega)
      have sz114 := cw114.size
      have oub113 := hub113.mono (T := fun k => w.heap.size < k) fun b hb => by omega
      refine agg4 ?_
      refine ⟨⟨cb114.size, fun b hb hs => cb114.block b hb (fun e => hs (.inl e))⟩, ?_⟩
      have ca115 := chg_alloc v113 (.cells #[.int .i8 u52.op, .int .i8 u52.f, .int .u64 u52.n, .slice u52.b u52.m u52.c, .int .i8 ub.op, .int .i8 ub.f, .int .u64 ub.n, .slice ub.b ub.m ub.c] 26) NoS
      have ba115 := blk_alloc v113 (.cells #[.int .i8 u52.op, .int .i8 u52.f, .int .u64 u52.n, .slice u52.b u52.m u52.c, .int .i8 ub.op, .int .i8 ub.f, .int .u64 ub.n, .slice ub.b ub.m ub.c] 26)
      generalize v113.alloc (.cells #[.int .i8 u52.op, .int .i8 u52.f, .int .u64 u52.n, .slice u52.b u52.m u52.c, .int .i8 ub.op, .int .i8 ub.f, .int .u64 ub.n, .slice ub.b ub.m ub.c] 26) = v115 at ca115 ba115 ⊢
      have hb115 : w.heap.size < v113.heap.size := lt_of_blk br114
      have rd116 := rdp113.keep ca115
      have cw116 := cw114.trans (toB ca115 _)
      have cb116 := cb114.trans (toB ca115 _)
      have br116 := ca115.blk br114 (fun x => x)
      have oup116 := oup114.keepN ca115
      have oua116 := oua114.keepN ca115
      have ou44116 := ou44114.keepN ca115
      have ou47116 := ou47114.keepN ca115
      have ou50116 := ou50114.keepN ca115
      have ou52116 := ou52114.keepN ca115
      have oub116 := oub113.keepN ca115
      have bg49116 := ca115.blk bg49114 (fun x => x)
      have bg43116 := ca115.blk bg43114 (fun x => x)
      have bg46116 := ca115.blk bg46114 (fun x => x)
      have bg51116 := ca115.blk bg51114 (fun x => x)
      have sz116 := cw116.size
      refine ⟨⟨cb116.size, fun b hb hs => cb116.block b hb (fun e => hs (.inl e))⟩, ?_⟩
      refine Calls.then (of2_ok (S := fun k => w.heap.size < k) (op := 9) (by omega) ba115 ou52116 oub116 hb115) ?_
      rintro _ v117 ⟨u56, rfl, oo117, cc117⟩
      have rd118 := rd116.keep cc117
      have cw118 := cw116.trans (toB cc117 _)
      have cb118 := cb116.trans (toB cc117 _)
      have br118 := cc117.blk br116 (fun x => x)
      have oup118 := oup116.keepN cc117
      have oua118 := oua116.keepN cc117
      have ou44118 := ou44116.keepN cc117
      have ou47118 := ou47116.keepN cc117
      have ou50118 := ou50116.keepN cc117
      have ou52118 := ou52116.keepN cc117
      have oub118 := oub116.keepN cc117
      have bg49118 := cc117.blk bg49116 (fun x => x)
      have bg43118 := cc117.blk bg43116 (fun x => x)
      have bg46118 := cc117.blk bg46116 (fun x => x)
      have bg51118 := cc117.blk bg51116 (fun x => x)
      have bg55118 := cc117.blk ba115 (fun x => x)
      have sz118 := cw118.size
      refine agg4 ?_
      refine ⟨⟨cb118.size, fun b hb hs => cb118.block b hb (fun e => hs (.inl e))⟩, ?_⟩
      have ca119 := chg_alloc v117 (.cells #[.int .i8 u47.op, .int .i8 u47.f, .int .u64 u47.n, .slice u47.b u47.m u47.c, .int .i8 u56.op, .int .i8 u56.f, .int .u64 u56.n, .slice u56.b u56.m u56.c] 26) NoS
      have ba119 := blk_alloc v117 (.cells #[.int .i8 u47.op, .int .i8 u47.f, .int .u64 u47.n, .slice u47.b u47.m u47.c, .int .i8 u56.op, .int .i8 u56.f, .int .u64 u56.n, .slice u56.b u56.m u56.c] 26)
      generalize v117.alloc (.cells #[.int .i8 u47.op, .int .i8 u47.f, .int .u64 u47.n, .slice u47.b u47.m u47.c, .int .i8 u56.op, .int .i8 u56.f, .int .u64 u56.n, .slice u56.b u56.m u56.c] 26) = v119 at ca119 ba119 ⊢
      have hb119 : w.heap.size < v117.heap.size := lt_of_blk br118
      have rd120 := rd118.keep ca119
      have cw120 := cw118.trans (toB ca119 _)
      have cb120 := cb118.trans (toB ca119 _)
      have br120 := ca119.blk br118 (fun x => x)
      have oup120 := oup118.keepN ca119
      have oua120 := oua118.keepN ca119
      have ou44120 := ou44118.keepN ca119
      have ou47120 := ou47118.keepN ca119
      have ou50120 := ou50118.keepN ca119
      have ou52120 := ou52118.keepN ca119
      have oub120 := oub118.keepN ca119
      have ou56120 := oo117.keepN ca119
      have bg49120 := ca119.blk bg49118 (fun x => x)
      have bg43120 := ca119.blk bg43118 (fun x => x)
      have bg46120 := ca119.blk bg46118 (fun x => x)
      have bg51120 := ca119.blk bg51118 (fun x => x)
      have bg55120 := ca119.blk bg55118 (fun x => x)
      have sz120 := cw120.size
      refine ⟨⟨cb120.size, fun b hb hs => cb120.block b hb (fun e => hs (.inl e))⟩, ?_⟩
      refine Calls.then (of2_ok (S := fun k => w.heap.size < k) (op := 8) (by omega) ba119 ou47120 ou56120 hb119) ?_
      rintro _ v121 ⟨u58, rfl, oo121, cc121⟩
      have rd122 := rd120.keep cc121
      have cw122 := cw120.trans (toB cc121 _)
      have cb122 := cb120.trans (toB cc121 _)
      have br122 := cc121.blk br120 (fun x => x)
      have oup122 := oup120.keepN cc121
      have oua122 := oua120.keepN cc121
      have ou44122 := ou44120.keepN cc121
      have ou47122 := ou47120.keepN cc121
      have ou50122 := ou50120.keepN cc121
      have ou52122 := ou52120.keepN cc121
      have oub122 := oub120.keepN cc121
      have ou56122 := ou56120.keepN cc121
      have bg49122 := cc121.blk bg49120 (fun x => x)
      have bg43122 := cc121.blk bg43120 (fun x => x)
      have bg46122 := cc121.blk bg46120 (fun x => x)
      have bg51122 := cc121.blk bg51120 (fun x => x)
      have bg55122 := cc121.blk bg55120 (fun x => x)
      have bg57122 := cc121.blk ba119 (fun x => x)
      have sz122 := cw122.size
      refine agg4 ?_
      refine ⟨⟨cb122.size, fun b hb hs => cb122.block b hb (fun e => hs (.inl e))⟩, ?_⟩
      refine (putR (vs := [.int .i8 u58.op, .int .i8 u58.f, .int .u64 u58.n, .slice u58.b u58.m u58.c]) br122 cw122 (Nat.le_refl _) rfl (by simp [oneC]) fun w8 b8 cB8 c8 => ?_ : setsW _ _ _ _ _)
      have kb8 : Kept (fun k => k = q.b ∨ k = w.heap.size) wb w8 := kept_put cb122 c8 hwb
      refine ⟨kb8, _, get_blk b8 0 _ rfl, _, get_blk b8 1 _ rfl, _, get_blk b8 2 _ rfl, _, _, _, get_blk b8 3 _ rfl, ?_⟩
      exact fin_ret (S := fun k => w.heap.size < k) h oo121 (fun k hk => hk) rd122 cB8 c8 (ifok _ _ _ _ _ _ hp1 hw6 hp2 hw7 hp3)
  | false =>
  rw [hw5, if_neg (by simp)] at h5
  rw [if_neg (by simp)]
  have n5 : ¬ isW ws i 1 [105, 102] = true := by simp [hw5]
  have lift : ∀ r, r ≠ .out → pairS ws 7 [58, 61] i = r → Pa ws .atom i r := fun r hr e => ⟨hr, 1, by rw [pa, if_neg n1, if_neg n2, if_neg n3, if_neg n4, if_neg n5]; exact e⟩
  refine Calls.thenP (pair_ok h5 7 (by omega) [58, 61]) ?_ fun c w' hb => BadP.from hb cB5 fun j hj => lift _ (by simp) hj
  rintro v w6 ⟨t, j, u, hP, rfl, hu, h6, c6⟩
  have cB6 := cB5.trans c6
  refine agg4 ?_
  refine (putR (vs := [.int .i8 u.op, .int .i8 u.f, .int .u64 u.n, .slice u.b u.m u.c]) (c6.blk b5 hbl) cB6 (Nat.le_refl _) rfl (by simp [oneC]) fun w8 b8 cB8 c8 => ?_ : setsW _ _ _ _ _)
  refine ⟨_, get_blk b8 0 _ rfl, _, get_blk b8 1 _ rfl, _, get_blk b8 2 _ rfl, _, _, _, get_blk b8 3 _ rfl, ?_⟩
  exact fin_ret h hu (fun k hk => by omega) h6 cB8 c8 (lift _ (by simp) hP)
/-- every level, at every place -/
theorem levels {q : Rp} {ws : List Wd} : ∀ (d i : Nat), ws.length - i = d → PaAt q ws 23 (.row .pol) i ∧ PaAt q ws 49 (.row .seq) i ∧ PaAt q ws 75 .star i ∧ PaAt q ws 90 .atom i ∧ PaAt q ws 51 (.row .pred) i ∧ PaAt q ws 76 (.row .and) i ∧ PaAt q ws 92 .not i := by
  intro d
  induction d using Nat.strongRecOn with
  | _ d ih =>
    intro i hd
    by_cases hi : i < ws.length
    · have up : ∀ i', i + 1 ≤ i' → PaAt q ws 23 (.row .pol) i' ∧ PaAt q ws 49 (.row .seq) i' ∧ PaAt q ws 75 .star i' ∧ PaAt q ws 90 .atom i' ∧ PaAt q ws 51 (.row .pred) i' ∧ PaAt q ws 76 (.row .and) i' ∧ PaAt q ws 92 .not i' := fun i' hi' => ih (ws.length - i') (by omega) i' rfl
      have ge : ∀ {P : Nat → Prop}, P i → (∀ i', i + 1 ≤ i' → P i') → ∀ i', i ≤ i' → P i' := fun h0 h1 i' hi' => by
        rcases Nat.lt_or_ge i i' with h | h
        · exact h1 i' h
        · have : i' = i := by omega
          subst this
          exact h0
      have hnot : PaAt q ws 92 .not i := not_ok (up _ (Nat.le_refl _)).2.2.2.2.2.2 (up _ (Nat.le_refl _)).2.2.2.2.1
      have hand : PaAt q ws 76 (.row .and) i := wrap52_ok (ge (P := fun i => PaAt q ws 92 .not i) hnot fun i' h => (up i' h).2.2.2.2.2.2)
      have hpred : PaAt q ws 51 (.row .pred) i := wrap30_ok (ge (P := fun i => PaAt q ws 76 (.row .and) i) hand fun i' h => (up i' h).2.2.2.2.2.1)
      have hatom : PaAt q ws 90 .atom i := atom_ok (up _ (Nat.le_refl _)).2.2.2.2.1 fun i' h => (up i' h).1
      have hstar : PaAt q ws 75 .star i := star_ok hatom
      have hseq : PaAt q ws 49 (.row .seq) i := wrap28_ok (ge (P := fun i => PaAt q ws 75 .star i) hstar fun i' h => (up i' h).2.2.1)
      exact ⟨wrap16_ok (ge (P := fun i => PaAt q ws 49 (.row .seq) i) hseq fun i' h => (up i' h).2.1), hseq, hstar, hatom, hpred, hand, hnot⟩
    · have no : ∀ {g : FuncId} {lv : Lv}, PaAt q ws g lv i := fun w h => absurd h.lt hi
      exact ⟨no, no, no, no, no, no, no⟩
end Go.Proofs.YtpolbdakhfcilaaGreatDoor.B
