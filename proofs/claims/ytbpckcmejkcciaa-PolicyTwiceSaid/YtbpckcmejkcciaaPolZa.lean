/-
  Policies: with a part replaced; the laws PolicyParts and PolicyForbids.
-/
import Derived.Test.YtbpckcmejkcciaaPolZ
set_option maxRecDepth 100000
set_option linter.unusedVariables false
set_option linter.unusedSimpArgs false
namespace Go.Proofs.Ytbpckcmejkcciaa.B
open Go Go.Proofs Go.Proofs.YtbpckcmejkcciaaEng

/-- what comes back is this term; its memory is what was there in w0, or new since a bound -/
def Stay (w0 : World) (base : Nat) (w' : World) (u : V4) (t : Tm) : Prop := ∀ (S : Nat → Prop) (w'' : World), Chg S w' w'' → (∀ b, S b → w0.heap.size ≤ b ∧ b < base) → u.is w'' t
theorem own_stay {w0 w' : World} {base : Nat} {u : V4} {t : Tm} (h : u.own w' (fun b => base ≤ b) t) : Stay w0 base w' u t := fun S w'' hc hs => (h.keep hc (fun b hb e => by have := hs b e; omega) (T := fun _ => True) fun _ _ => trivial).is
/-- the end of a call: the answer is put down and told -/
theorem fin4 {w wX : World} {g : Nat} {cs : Array Value} {u : V4} {R : Value → World → Prop} (hZ : Mine w wX g cs 26) (hs : cs.size = 4) (h : ∀ w', Mine w w' g u.arr 26 → Chg (OnlyB g) wX w' → R (.agg u.arr) w') :
    setW wX (addK ⟨g, 0, none⟩ 0) (.int .i8 u.op) fun w1 => setW w1 (addK ⟨g, 0, none⟩ 1) (.int .i8 u.f) fun w2 => setW w2 (addK ⟨g, 0, none⟩ 2) (.int .u64 u.n) fun w3 => setW w3 (addK ⟨g, 0, none⟩ 3) (.slice u.b u.m u.c) fun w4 =>
      ∃ x, w4.cell? (addK ⟨g, 0, none⟩ 0) = some (.int .i8 x) ∧ ∃ x1, w4.cell? (addK ⟨g, 0, none⟩ 1) = some (.int .i8 x1) ∧ ∃ x2, w4.cell? (addK ⟨g, 0, none⟩ 2) = some (.int .u64 x2) ∧ ∃ a n c, w4.cell? (addK ⟨g, 0, none⟩ 3) = some (.slice a n c) ∧ R (.agg #[.int .i8 x, .int .i8 x1, .int .u64 x2, .slice a n c]) w4 := by
  refine set4 u hZ hs ?_
  intro wB hMB hcB
  exact get4 hMB (h wB hMB hcB)
/-- four cells of a row of the call's own are written -/
theorem row_set {w w' : World} {base g n c j : Nat} {us : List V4} {u : V4} {K : World → Prop} (ho : w.ownsRow base 26 4 (.slice (some ⟨g, 0, none⟩) n c) n (flat us)) (hj : j < us.length)
    (hK : ∀ w', w'.ownsRow base 26 4 (.slice (some ⟨g, 0, none⟩) n c) n (flat (us.set j u)) → Chg (OnlyB g) w w' → w'.heap.size = w.heap.size → K w') :
    setW w (addK (addK ⟨g, 0, none⟩ (j * 4)) 0) (.int .i8 u.op) fun w1 => setW w1 (addK (addK ⟨g, 0, none⟩ (j * 4)) 1) (.int .i8 u.f) fun w2 => setW w2 (addK (addK ⟨g, 0, none⟩ (j * 4)) 2) (.int .u64 u.n) fun w3 => setW w3 (addK (addK ⟨g, 0, none⟩ (j * 4)) 3) (.slice u.b u.m u.c) K := by
  have hn : us.length = n := by
    have h1 := ho.1
    have h2 := flat_length us
    rw [h2] at h1
    omega
  simp only [addK_addK, addK_lit, Nat.zero_add]
  refine setW_own ho (by omega) rfl fun w1 o1 c1 s1 => ?_
  refine setW_own o1 (by omega) rfl fun w2 o2 c2 s2 => ?_
  refine setW_own o2 (by omega) rfl fun w3 o3 c3 s3 => ?_
  refine setW_own o3 (by omega) rfl fun w4 o4 c4 s4 => ?_
  refine hK w4 ?_ (((c1.trans c2).trans c3).trans c4) (by omega)
  have e : (((((flat us).set (j * 4 + 0) (.int .i8 u.op)).set (j * 4 + 1) (.int .i8 u.f)).set (j * 4 + 2) (.int .u64 u.n)).set (j * 4 + 3) (.slice u.b u.m u.c)) = flat (us.set j u) := by
    clear ho hK o1 o2 o3 o4 hn
    induction us generalizing j with
    | nil => simp at hj
    | cons x us ih =>
      cases j with
      | zero => rfl
      | succ j =>
        have e1 : flat (x :: us) = .int .i8 x.op :: .int .i8 x.f :: .int .u64 x.n :: .slice x.b x.m x.c :: flat us := rfl
        have e2 : flat ((x :: us).set (j + 1) u) = .int .i8 x.op :: .int .i8 x.f :: .int .u64 x.n :: .slice x.b x.m x.c :: flat (us.set j u) := rfl
        rw [e1, e2, ← ih (by simpa using hj)]
        have e3 : ∀ k, (j + 1) * 4 + k = (j * 4 + k) + 1 + 1 + 1 + 1 := fun k => by omega
        simp only [e3, List.set_cons_succ]
        rfl
  rw [← e]
  exact o4
theorem VS.set {w : World} : ∀ {vs : List V4} {ts : List Tm} {j : Nat} {v : V4} {t : Tm}, VS w vs ts → v.is w t → VS w (vs.set j v) (ts.set j t)
  | _, _, _, _, _, .nil, _ => .nil
  | _, _, 0, _, _, .cons _ r, h => .cons h r
  | _, _, j + 1, _, _, .cons h r, k => .cons h (VS.set r k)
/-- terms that come from what was there, but one that is new -/
theorem vs_set {w w' : World} : ∀ {vs : List V4} {ts : List Tm} {j : Nat} {v : V4} {t : Tm}, VS w vs ts → Chg NoS w w' → v.is w' t → VS w' (vs.set j v) (ts.set j t) := fun h hc hv => (h.keep hc).set hv
theorem reads_ints {w : World} {a : Option Addr} {x : Int} {xs : List Int} (h : Reads w a ((x :: xs).map (.int .i64))) : ∃ A, a = some A ∧ w.cell? (addK A 0) = some (.int .i64 x) := h 0 _ rfl
theorem reads_tail {w : World} {a : Option Addr} {x : Int} {xs : List Int} {c : Nat} (h : Reads w a ((x :: xs).map (.int .i64))) (hc : xs.length + 1 ≤ c) : Reads w (if c = 1 then a else a.map fun A => addK A 1) (xs.map (.int .i64)) := by
  have := reads_drop h 1 c
  simp only [List.map_cons, List.drop_succ_cons, List.drop_zero, Nat.mul_one, List.length_cons, List.length_map] at this
  by_cases hx : xs.length = 0
  · have : xs = [] := List.length_eq_zero_iff.1 hx
    subst this
    intro j u hu
    simp at hu
  · exact this fun h => by omega
theorem ownB {b n c k : Nat} (e : (Value.slice (some ⟨b, 0, none⟩) n c).ownBlock = some k) : b = k := by
  injection e
theorem Replaced_ok {w0 : World} : ∀ (path : List Int) (t : Tm) (v : V4) (a : Option Addr) (n c : Nat) (w : World), Chg NoS w0 w → Reads w0 a (path.map (.int .i64)) → n = path.length → n ≤ c → v.is w0 t → tsize t ≤ 1000000 →
    Calls Try.prog 21 #[.agg v.arr, .slice a n c] w (endW (fun r w' => ∃ u : V4, r = .agg u.arr ∧ Chg NoS w w' ∧ Stay w0 w.heap.size w' u (repS path t)) (fun _ _ => False)) := by
  intro path
  induction path with
  | nil =>
    intro t v a n c w hc0 hr hn hnc hv hsz
    obtain ⟨ks, rfl, hlen, hmc, hcm, hrng, hget⟩ := TVal.parts hv
    refine F21_calls v.op v.f v.n v.b v.m v.c a n c ?_
    delta F21
    have hP0 := mine_alloc (Chg.refl NoS w) v.arr 26
    have hs1 := size_alloc w (.cells v.arr 26)
    generalize w.alloc (.cells v.arr 26) = w1 at *
    have hZ0 := mine_alloc hP0.2.1 #[.int .i8 0, .int .i8 0, .int .u64 0, .slice none 0 0] 26
    have hs2 := size_alloc w1 (.cells #[.int .i8 0, .int .i8 0, .int .u64 0, .slice none 0 0] 26)
    have hP1 := hP0.keep (chg_alloc w1 (.cells #[.int .i8 0, .int .i8 0, .int .u64 0, .slice none 0 0] 26) NoS)
    generalize w1.alloc (.cells #[.int .i8 0, .int .i8 0, .int .u64 0, .slice none 0 0] 26) = w2 at *
    have z0 := hc0.size
    have hrep : repS [] (.mk v.op v.f v.n ks) = insteadS v.op := rfl
    refine ⟨fun _ _ => False, fun _ _ h => h.elim, ?_⟩
    rw [if_neg (by simp [hn])]
    refine ⟨_, (mine_cell hP1 0).trans rfl, ?_⟩
    by_cases h5 : v.op ≤ 5
    · rw [if_pos (by simpa using h5)]
      refine set4 ⟨1, 0, 0, none, 0, 0⟩ hZ0 rfl ?_
      intro w' hM hc
      refine get4 hM ⟨⟨1, 0, 0, none, 0, 0⟩, rfl, hM.2.1, ?_⟩
      rw [hrep]
      unfold insteadS
      rw [if_pos h5]
      exact own_stay (own_bare _ _ (by omega))
    · rw [if_neg (by simpa using h5)]
      refine Calls.then (LFilter_own (v := ⟨1, 0, 0, none, 0, 0⟩) (own_bare _ _ (by omega))) ?_
      rintro r w3 ⟨u, rfl, hu, hc3⟩
      refine agg4 ?_
      refine set4 u (hZ0.keep hc3) rfl ?_
      intro w' hM hc
      refine get4 hM ⟨u, rfl, hM.2.1, ?_⟩
      rw [hrep]
      unfold insteadS
      rw [if_neg h5]
      exact own_stay (hu.keep hc (fun b hb e => by have : b = w1.heap.size := e; omega) fun b hb => by omega)
  | cons x path ih =>
    intro t v a n c w hc0 hr hn hnc hv hsz
    obtain ⟨ks, rfl, hlen, hmc, hcm, hrng, hget⟩ := TVal.parts hv
    refine F21_calls v.op v.f v.n v.b v.m v.c a n c ?_
    delta F21
    have hP0 := mine_alloc (Chg.refl NoS w) v.arr 26
    have hs1 := size_alloc w (.cells v.arr 26)
    generalize w.alloc (.cells v.arr 26) = w1 at *
    have hZ0 := mine_alloc hP0.2.1 #[.int .i8 0, .int .i8 0, .int .u64 0, .slice none 0 0] 26
    have hs2 := size_alloc w1 (.cells #[.int .i8 0, .int .i8 0, .int .u64 0, .slice none 0 0] 26)
    have hP1 := hP0.keep (chg_alloc w1 (.cells #[.int .i8 0, .int .i8 0, .int .u64 0, .slice none 0 0] 26) NoS)
    generalize w1.alloc (.cells #[.int .i8 0, .int .i8 0, .int .u64 0, .slice none 0 0] 26) = w2 at *
    have z0 := hc0.size
    have hn' : n = path.length + 1 := hn
    obtain ⟨Ap, hAp, hpx⟩ := reads_ints hr
    refine ⟨fun _ w3 => w3 = w2 ∧ ks ≠ [], ?_, ?_⟩
    rotate_left
    · rw [if_pos (by simp; omega)]
      refine ⟨_, _, _, (mine_cell hP1 3).trans rfl, ?_⟩
      by_cases hk : v.m = 0
      · rw [if_pos (by simp [hk])]
        have hrep : repS (x :: path) (.mk v.op v.f v.n ks) = insteadS v.op := by
          unfold repS
          rw [if_pos (List.length_eq_zero_iff.1 (by omega))]
        refine ⟨_, (mine_cell hP1 0).trans rfl, ?_⟩
        by_cases h5 : v.op ≤ 5
        · rw [if_pos (by simpa using h5)]
          refine set4 ⟨1, 0, 0, none, 0, 0⟩ hZ0 rfl ?_
          intro w' hM hc
          refine get4 hM ⟨⟨1, 0, 0, none, 0, 0⟩, rfl, hM.2.1, ?_⟩
          rw [hrep]
          unfold insteadS
          rw [if_pos h5]
          exact own_stay (own_bare _ _ (by omega))
        · rw [if_neg (by simpa using h5)]
          refine Calls.then (LFilter_own (v := ⟨1, 0, 0, none, 0, 0⟩) (own_bare _ _ (by omega))) ?_
          rintro r w3 ⟨u, rfl, hu, hc3⟩
          refine agg4 ?_
          refine set4 u (hZ0.keep hc3) rfl ?_
          intro w' hM hc
          refine get4 hM ⟨u, rfl, hM.2.1, ?_⟩
          rw [hrep]
          unfold insteadS
          rw [if_neg h5]
          exact own_stay (hu.keep hc (fun b hb e => by have : b = w1.heap.size := e; omega) fun b hb => by omega)
      · rw [if_neg (by simp [hk])]
        exact ⟨(), trivial, rfl, fun h => hk (by rw [hlen, h]; rfl)⟩
    · rintro _ w3 ⟨rfl, hks⟩ _
      have hkl : 0 < ks.length := List.length_pos_iff.2 hks
      have hlk := lsize_len ks
      have hsz' : lsize ks + 1 ≤ 1000000 := by simpa only [tsize] using hsz
      obtain ⟨us, hus, hvs⟩ := reads_of_terms (w := w0) (a := v.b) (ts := ks) hget
      have hul := hvs.len
      have hcd := chg_drew w3 NoS
      have hPd := hP1.keep hcd
      have hZd := hZ0.keep hcd
      have zd := size_drew w3
      generalize w3.drew = wd at *
      have hba := blk_alloc wd (.cells #[] 26)
      have hca := chg_alloc wd (.cells #[] 26) NoS
      have hPa := hPd.keep hca
      have hZa := hZd.keep hca
      have za := size_alloc wd (.cells #[] 26)
      have hw0d : Chg NoS w0 wd := hc0.trans hPd.2.1
      refine ⟨by omega, by omega, wSome_of hAp ⟨_, cell_keep hpx hw0d, _, _, _, (mine_cell hPd 3).trans rfl, by omega, _, _, _, (mine_cell hPd 3).trans rfl, _, _, _, (mine_cell hPd 3).trans rfl, by omega, _, _, _, (mine_cell hPa 3).trans rfl, ?_⟩⟩
      have hw0a : Chg NoS w0 (wd.alloc (.cells #[] 26)) := hw0d.trans hca
      generalize wd.alloc (.cells #[] 26) = wa at *
      have hown : wa.ownsRow wd.heap.size 26 4 (.slice (some ⟨wd.heap.size, 0, none⟩) 0 0) 0 (flat []) := ⟨rfl, .inr ⟨wd.heap.size, 0, #[], rfl, Nat.le_refl _, hba, Nat.le_refl _, by unfold maxLen; omega, rfl, rfl⟩⟩
      refine terms_append (us := us) hown (by omega) (reads_keep hus hw0a) (reads_none (reads_keep hus hw0a) (by omega)) (by omega) (by omega) ?_
      intro a4 c4 w4 ho4 hc4 hb4
      simp only [Nat.zero_add, List.nil_append] at ho4 hb4 ⊢
      have z4 := hc4.size
      have hat4 := own_at ho4
      obtain ⟨a4', c4', e4, hmc4, hform⟩ := own_form ho4
      injection e4 with e41 e42 e43
      subst e41
      subst e43
      have hw4 : Chg NoS w0 w4 := hw0a.trans2 hc4 fun k hk e => by have := ownB e; have := hw0d.size; omega
      have hP4 : Mine w w4 w.heap.size v.arr 26 := ⟨hc4.blk hPa.1 (fun e => by have := ownB e; omega), hPa.2.1.trans2 hc4 (fun k hk e => by have := ownB e; have := hPd.2.1.size; omega), hPa.2.2⟩
      have hZ4 : Mine w w4 w1.heap.size #[.int .i8 0, .int .i8 0, .int .u64 0, .slice none 0 0] 26 := ⟨hc4.blk hZa.1 (fun e => by have := ownB e; omega), hP4.2.1, hZ0.2.2⟩
      have hd4 := chg_drew w4 NoS
      have hZd4 := hZ4.keep hd4
      have hPd4 := hP4.keep hd4
      have hw4d := hw4.trans hd4
      have zd4 := size_drew w4
      have ho4d := own_none ho4 hd4
      generalize w4.drew = w5 at *
      have hk1 := kidOf_lt (x := x) hkl
      obtain ⟨hidx, hmod, hm0, hm1⟩ := hk1
      have hmod' : Int.tmod (IntKind.wrap .i64 (Int.tmod x (v.m : Int) + (v.m : Int))) (v.m : Int) = (kidOf x ks.length : Int) := by
        rw [hlen, i64w (Int.tmod x (ks.length : Int) + (ks.length : Int)) (by omega) (by omega)]
        exact hmod
      have hr' := reads_tail (c := c) hr (by omega)
      have hkk : ks[kidOf x ks.length]? = some (ks.getD (kidOf x ks.length) (bareS 0)) := by rw [List.getD_eq_getElem?_getD, List.getElem?_eq_getElem hidx]; rfl
      have hkmem : ks.getD (kidOf x ks.length) (bareS 0) ∈ ks := List.mem_of_getElem? hkk
      have hksz := tsize_le hkmem
      obtain ⟨A, hA, o', f', n', b', m', c', q0, q1, q2, q3, hq⟩ := hget _ _ hkk
      rw [hmod']
      refine ⟨_, _, _, rfl, by omega, by omega, _, _, _, (mine_cell hPd4 3).trans rfl, by omega, by omega, wSome_of hA ?_⟩
      rw [Int.toNat_natCast]
      refine ⟨_, cell_keep q0 hw4d, _, cell_keep q1 hw4d, _, cell_keep q2 hw4d, _, _, _, cell_keep q3 hw4d, ?_⟩
      have hcall := ih (ks.getD (kidOf x ks.length) (bareS 0)) ⟨o', f', n', b', m', c'⟩ _ (n - 1) (c - 1) w5 hw4d hr' (by omega) (by omega) hq (by omega)
      refine Calls.then hcall ?_
      rintro r w6 ⟨u, rfl, hc6, hst⟩
      have z6 := hc6.size
      have ho6 := own_none ho4d hc6
      have hP6 := hPd4.keep hc6
      have hZ6 := hZd4.keep hc6
      refine agg4 ?_
      obtain ⟨A4, hA4, _⟩ := own_cell ho6 (j := 0) (u := .int .i8 (us[0]'(by omega)).op) (by
        match us, hul with
        | u0 :: us, _ => rfl
        | [], h => simp at h; omega)
      obtain ⟨g, hg⟩ := hform A4 hA4
      subst hg
      subst hA4
      have hgb := hat4 _ rfl
      refine ⟨by omega, by omega, ?_⟩
      rw [wSome_some]
      refine row_set (w' := w6) ho6 (j := kidOf x ks.length) (by omega) ?_
      intro w7 ho7 hc7 z7
      have hgw : wd.heap.size ≤ g := hgb.1
      have hgw2 : g < w4.heap.size := hgb.2
      have hP7 := hc7.blk hP6.1 (fun e => by have : w.heap.size = g := e; omega)
      have hZ7 := hc7.blk hZ6.1 (fun e => by have : w1.heap.size = g := e; omega)
      have hw7 : Chg NoS w w7 := hP6.2.1.trans2 hc7 fun k hk e => by have : k = g := e; omega
      refine setW_blk hP7 (by simp) rfl fun w8 b8 c8 z8 => ?_
      have hw8 : Chg NoS w w8 := hw7.trans2 c8 fun k hk e => by have : k = w.heap.size := e; omega
      have hP8 : Mine w w8 w.heap.size (V4.arr ⟨v.op, v.f, v.n, some ⟨g, 0, none⟩, v.m, c4⟩) 26 := ⟨b8, hw8, Nat.le_refl _⟩
      have hZ8 : Mine w w8 w1.heap.size #[.int .i8 0, .int .i8 0, .int .u64 0, .slice none 0 0] 26 := ⟨c8.blk hZ7 (fun e => by have : w1.heap.size = w.heap.size := e; omega), hw8, by omega⟩
      refine get4 hP8 ?_
      refine set4 ⟨v.op, v.f, v.n, some ⟨g, 0, none⟩, v.m, c4⟩ hZ8 rfl ?_
      intro w9 hM9 c9
      refine get4 hM9 ?_
      refine ⟨⟨v.op, v.f, v.n, some ⟨g, 0, none⟩, v.m, c4⟩, rfl, hM9.2.1, ?_⟩
      intro S w'' hcS hS
      have hw0 : Chg NoS w0 w'' := (hc0.trans hM9.2.1).trans2 hcS fun k hk e => by have := hS k e; omega
      have hrep : repS (x :: path) (.mk v.op v.f v.n ks) = .mk v.op v.f v.n (ks.set (kidOf x ks.length) (repS path (ks.getD (kidOf x ks.length) (bareS 0)))) := by
        conv => lhs; unfold repS
        rw [if_neg hks]
      rw [hrep]
      have hu : u.is w'' (repS path (ks.getD (kidOf x ks.length) (bareS 0))) := hst (fun b => w0.heap.size ≤ b ∧ b < w5.heap.size) w'' (((hc7.mono fun k hk e => by have : k = g := e; omega).trans2 (c8.mono fun k hk e => by have : k = w.heap.size := e; exact (⟨by omega, by omega⟩ : w0.heap.size ≤ k ∧ k < w5.heap.size)) fun k hk e => e).trans2 (c9.mono fun k hk e => by have : k = w1.heap.size := e; exact (⟨by omega, by omega⟩ : w0.heap.size ≤ k ∧ k < w5.heap.size)) (fun k hk e => e) |>.trans2 hcS fun k hk e => by have := hS k e; omega) fun b hb => hb
      have hr9 : Reads w'' (some ⟨g, 0, none⟩) (flat (us.set (kidOf x ks.length) u)) := (((own_reads' ho7).chg c8 (fun A hA e => by cases hA; have : g = w.heap.size := e; omega)).chg c9 (fun A hA e => by cases hA; have : g = w1.heap.size := e; omega)).chg hcS (fun A hA e => by cases hA; have : w0.heap.size ≤ g ∧ g < w.heap.size := hS g e; omega)
      exact tval_mk hrng (by rw [List.length_set]; exact hlen) hmc4 (own_cap ho4).2 (vs_set hvs hw0 hu) hr9
end Go.Proofs.Ytbpckcmejkcciaa.B
