/-
  parse: the law of brackets, walked.
-/
import Derived.Test.YtgoanblnkdihfaaGreatDoorPaSW
import Derived.Test.YtgoanblnkdihfaaGreatDoorPaR
import Derived.Test.YtgoanblnkdihfaaGreatDoorBJ
set_option maxRecDepth 100000
set_option linter.unusedVariables false
set_option linter.unusedSimpArgs false
namespace Go.Proofs.YtgoanblnkdihfaaGreatDoor.B
open Go Go.Proofs Go.Proofs.YtgoanblnkdihfaaGreatDoorEng Go.RowKit

/-- what stands in an answer of Policy -/
def Inf (o : Fo) (w : World) (u : V4) (qa : Option Addr) (n : Nat) (e : Value) : Prop := match o with
  | .ok main qs => e = .nilIface ∧ u.is w main ∧ QsAt w (bsQ qs) qa ∧ n = qs.length ∧ qs.length ≤ 70000
  | .fault code pos txt => ∃ p, e = .iface 56 (.pointer (some ⟨p, 0, none⟩)) ∧ w.heap[p]? = some (.cells #[.int .i64 (code : Int), .int .i64 (pos : Int), .string (bs txt)] 68 (0, 0))
theorem RetF.inf {w w' : World} {o : Fo} {v : Value} (h : RetF w o v w') : Chg NoS w w' ∧ ∃ u qa n c e, v = .tuple #[.agg (parr u qa n c), e] ∧ Inf o w' u qa n e := by
  obtain ⟨hc, h⟩ := h
  refine ⟨hc, ?_⟩
  cases o with
  | ok main qs =>
    obtain ⟨u, qa, c, rfl, h1, h2, h3⟩ := h
    exact ⟨u, qa, _, c, _, rfl, rfl, h1, h2, rfl, h3⟩
  | fault code pos txt =>
    obtain ⟨p, rfl, _, h2⟩ := h
    exact ⟨⟨0, 0, 0, none, 0, 0⟩, none, 0, 0, _, rfl, p, rfl, h2⟩
def Dp (e : Value) (w : World) : Prop := e = .nilIface ∨ ∃ (p pos : Nat) (txt : List UInt8), e = .iface 56 (.pointer (some ⟨p, 0, none⟩)) ∧ w.heap[p]? = some (.cells #[.int .i64 200, .int .i64 (pos : Int), .string (bs txt)] 68 (0, 0))
theorem Dp.chg {e : Value} {w w' : World} (h : Dp e w) (hc : Chg NoS w w') : Dp e w' := by
  rcases h with h | ⟨p, pos, txt, h1, h2⟩
  · exact .inl h
  · exact .inr ⟨p, pos, txt, h1, hc.blk h2 fun x => x⟩
theorem deep_any {e : Value} {w : World} (h : Dp e w) : Calls Tryz.prog 10 #[e] w (endW (fun v w' => v = .bool true ∧ Chg NoS w w') (fun _ _ => False)) := by
  rcases h with rfl | ⟨p, pos, txt, rfl, h2⟩
  · exact deep_nil w
  · exact deep_big h2
theorem Inf.dp {p : Tm} {w : World} {u : V4} {qa : Option Addr} {n : Nat} {e : Value} (h : Inf (endO p) w u qa n e) : Dp e w := by
  unfold endO at h
  by_cases hs : smallS [p] = true
  · rw [if_pos hs] at h; exact .inl h.1
  · rw [if_neg hs] at h
    obtain ⟨q, h1, h2⟩ := h
    exact .inr ⟨q, 0, [], h1, h2⟩
theorem Inf.shape {o : Fo} {w : World} {u : V4} {qa : Option Addr} {n : Nat} {e : Value} (h : Inf o w u qa n e) : e = .nilIface ∨ ∃ t z, e = .iface t z := by
  cases o with
  | ok main qs => exact .inl h.1
  | fault code pos txt => obtain ⟨p, h1, _⟩ := h; exact .inr ⟨_, _, h1⟩
theorem wake2 {w wx : World} (hL : Libs w) (hc : Chg NoS w wx) : Calls Tryz.prog 6 #[] wx (endW (fun v w' => ∃ b, v = .bool b ∧ (Value.bool b = .bool true ∧ Chg NoS w w')) (fun _ _ => False)) :=
  Calls.then (wakes_ok wx (hL.chg hc)) fun v w' h => ⟨true, h.1, rfl, hc.trans h.2⟩
theorem wakeK {w wx : World} (hL : Libs w) (hc : Chg NoS w wx) : Calls Tryz.prog 6 #[] wx (endW (fun v w' => ∃ b, v = .bool b ∧ Kept NoS wx w' ∧ (Value.bool b = .bool true ∧ Chg NoS w w')) (fun _ _ => False)) :=
  Calls.then (wakes_ok wx (hL.chg hc)) fun v w' h => ⟨true, h.1, kept_of_ h.2, rfl, hc.trans h.2⟩
theorem deeps {w wx : World} {e1 e2 e3 : Value} (hL : Libs w) (hc : Chg NoS w wx) (d1 : Dp e1 wx) (d2 : Dp e2 wx) (d3 : Dp e3 wx) :
    Calls Tryz.prog 10 #[e1] wx (endW (fun v w' => ∃ b, v = .bool b ∧ if b = true then Calls Tryz.prog 10 #[e2] w' (endW (fun v w' => ∃ b, v = .bool b ∧ if b = true then Calls Tryz.prog 10 #[e3] w' (endW (fun v w' => ∃ b, v = .bool b ∧ if b = true then Calls Tryz.prog 6 #[] w' (endW (fun v w' => ∃ b, v = .bool b ∧ (Value.bool b = .bool true ∧ Chg NoS w w')) fun _ _ => False) else (Value.bool false = .bool true ∧ Chg NoS w w')) fun _ _ => False) else (Value.bool false = .bool true ∧ Chg NoS w w')) fun _ _ => False) else (Value.bool false = .bool true ∧ Chg NoS w w')) fun _ _ => False) := by
  refine Calls.then (deep_any d1) ?_
  rintro v w1 ⟨rfl, c1⟩
  refine ⟨true, rfl, ?_⟩
  rw [if_pos rfl]
  refine Calls.then (deep_any (d2.chg c1)) ?_
  rintro v w2 ⟨rfl, c2⟩
  refine ⟨true, rfl, ?_⟩
  rw [if_pos rfl]
  refine Calls.then (deep_any ((d3.chg c1).chg c2)) ?_
  rintro v w3 ⟨rfl, c3⟩
  refine ⟨true, rfl, ?_⟩
  rw [if_pos rfl]
  exact wake2 hL (((hc.trans c1).trans c2).trans c3)
abbrev vs5 (u : V4) (qa : Option Addr) (n k : Nat) : List Value := [.int .i8 u.op, .int .i8 u.f, .int .u64 u.n, .slice u.b u.m u.c, .slice qa n k]
abbrev zs5 : List Value := [.int .i8 0, .int .i8 0, .int .u64 0, .slice none 0 0, .slice none 0 0]
theorem ld5 {w0 wx : World} {g : Nat} {vs : List Value} {t : TypeId} (b : w0.heap[g]? = some (.cells vs.toArray t (0, 0))) (hc : Chg NoS w0 wx) (k : Nat) (v : Value) (hv : vs[k]? = some v) : wx.cell? (addK ⟨g, 0, none⟩ k) = some v := get_blk (hc.blk b fun x => x) k v hv

theorem ParseBrackets_w (s t : ByteArray) (w : World) (hL : Libs w) : Calls Tryz.prog 4 #[.string s, .string t] w (endW (fun v w' => v = .bool true ∧ Chg NoS w w') (fun _ _ => False)) := by
  obtain ⟨a, rfl⟩ : ∃ a, s = bs a := ⟨_, (bs_data s).symm⟩
  obtain ⟨b, rfl⟩ : ∃ b, t = bs b := ⟨_, (bs_data t).symm⟩
  have E1 : (({ data := #[(40 : UInt8)] } : ByteArray) ++ bs a) = bs (40 :: a) := bs_app [40] a
  have E2 : (bs (40 :: a) ++ { data := #[(10 : UInt8), (41 : UInt8)] }) = bs (txtW a) := bs_app (40 :: a) [10, 41]
  have E3 : (bs (40 :: a) ++ { data := #[(10 : UInt8), (41 : UInt8), (32 : UInt8), (59 : UInt8), (32 : UInt8), (40 : UInt8)] }) = bs ((40 :: a) ++ [10, 41, 32, 59, 32, 40]) := bs_app (40 :: a) [10, 41, 32, 59, 32, 40]
  have E4 : bs ((40 :: a) ++ [10, 41, 32, 59, 32, 40]) ++ bs b = bs (((40 :: a) ++ [10, 41, 32, 59, 32, 40]) ++ b) := bs_app _ _
  have E5 : (bs (((40 :: a) ++ [10, 41, 32, 59, 32, 40]) ++ b) ++ { data := #[(10 : UInt8), (41 : UInt8)] }) = bs (txtB a b) := (bs_app _ [10, 41]).trans (congrArg bs (by simp [txtB]))
  have E6 : (bs (40 :: a) ++ { data := #[(10 : UInt8), (41 : UInt8), (42 : UInt8)] }) = bs (txtS a) := bs_app (40 :: a) [10, 41, 42]
  refine F4_calls _ _ ?_
  delta F4
  refine ⟨fun _ w' => w = w' ∧ a.length ≤ 4096 ∧ b.length ≤ 4096, ?_, ?_⟩
  · rintro _ _ ⟨rfl, hla, hlb⟩ _
    refine Calls.then (Policy_ok w a hL.1) ?_
    rintro v w1 ⟨o1, ho1, hr1⟩
    obtain ⟨c1, u1, q1, n1, k1, e1, rfl, i1⟩ := hr1.inf
    refine ⟨_, rfl, _, _, rfl, _, rfl, _, _, rfl, _, rfl, _, _, rfl, _, rfl, _, _, rfl, _, rfl, _, _, rfl, _, _, _, rfl, _, _, rfl, _, _, _, rfl, rfl, _, _, rfl, rfl, ?_⟩
    refine (put4 (w := w1) (vs := vs5 u1 q1 n1 k1) (cs := zs5) (blk_alloc w1 _) (chg_alloc w1 _ _) (Nat.le_refl _) rfl (by simp [oneC]) fun w2 b2 c2 _ z2 => ?_ : setsW _ _ _ _ _)
    have c02 := c1.trans c2
    refine Calls.then (Policy_ok w2 b (hL.chg c02).1) ?_
    rintro v w3 ⟨o2, ho2, hr2⟩
    obtain ⟨c3, u2, q2, n2, k2, e2, rfl, i2⟩ := hr2.inf
    refine ⟨_, rfl, _, _, rfl, _, rfl, _, _, rfl, _, rfl, _, _, rfl, _, rfl, _, _, rfl, _, rfl, _, _, rfl, _, _, _, rfl, _, _, rfl, _, _, _, rfl, rfl, _, _, rfl, rfl, ?_⟩
    refine (put4 (w := w3) (vs := vs5 u2 q2 n2 k2) (cs := zs5) (blk_alloc w3 _) (chg_alloc w3 _ _) (Nat.le_refl _) rfl (by simp [oneC]) fun w4 b4 c4 _ z4 => ?_ : setsW _ _ _ _ _)
    have c24 := c3.trans c4
    have c04 := c02.trans c24
    by_cases good : (∃ p, o1 = .ok p []) ∧ (∃ q, o2 = .ok q [])
    · obtain ⟨⟨p, rfl⟩, q, rfl⟩ := good
      obtain ⟨rfl, h1, g1, rfl, _⟩ := i1
      obtain ⟨rfl, h2, g2, rfl, _⟩ := i2
      refine ⟨fun _ w' => w4 = w', ?_, ?_⟩
      · rintro _ _ rfl _
        rw [E1, E2, E3, E4, E5, E6]
        simp only [bs_size]
        refine ⟨by show _ ≤ (9223372036854775807 : Int); omega, by show _ ≤ (9223372036854775807 : Int); simp only [List.length_cons]; omega, ?_⟩
        refine Calls.then (Policy_is (hL.chg c04).1 (whole_is ho1 hla)) ?_
        intro v w5 hr
        obtain ⟨c5, u5, q5, n5, k5, e5, rfl, i5⟩ := hr.inf
        refine ⟨_, rfl, _, _, rfl, _, rfl, _, _, rfl, _, rfl, _, _, rfl, _, rfl, _, _, rfl, _, rfl, _, _, rfl, _, _, _, rfl, _, _, rfl, _, _, _, rfl, rfl, _, _, rfl, rfl, ?_⟩
        refine (put4 (w := w5) (vs := vs5 u5 q5 n5 k5) (cs := zs5) (blk_alloc w5 _) (chg_alloc w5 _ _) (Nat.le_refl _) rfl (by simp [oneC]) fun w6 b6 c6 _ z6 => ?_ : setsW _ _ _ _ _)
        have c46 := c5.trans c6
        refine ⟨by show _ ≤ (9223372036854775807 : Int); omega, by show _ ≤ (9223372036854775807 : Int); simp only [List.length_cons]; omega, by show _ ≤ (9223372036854775807 : Int); simp only [List.length_cons, List.length_append, List.length_nil]; omega, by show _ ≤ (9223372036854775807 : Int); simp only [List.length_cons, List.length_append, List.length_nil]; omega, ?_⟩
        refine Calls.then (Policy_is ((hL.chg c04).chg c46).1 (both_is ho1 ho2 hla hlb)) ?_
        intro v w7 hr
        obtain ⟨c7, u7, q7, n7, k7, e7, rfl, i7⟩ := hr.inf
        refine ⟨_, rfl, _, _, rfl, _, rfl, _, _, rfl, _, rfl, _, _, rfl, _, rfl, _, _, rfl, _, rfl, _, _, rfl, _, _, _, rfl, _, _, rfl, _, _, _, rfl, rfl, _, _, rfl, rfl, ?_⟩
        refine (put4 (w := w7) (vs := vs5 u7 q7 n7 k7) (cs := zs5) (blk_alloc w7 _) (chg_alloc w7 _ _) (Nat.le_refl _) rfl (by simp [oneC]) fun w8 b8 c8 _ z8 => ?_ : setsW _ _ _ _ _)
        have c68 := c7.trans c8
        refine ⟨by show _ ≤ (9223372036854775807 : Int); omega, by show _ ≤ (9223372036854775807 : Int); simp only [List.length_cons]; omega, ?_⟩
        refine Calls.then (Policy_is (((hL.chg c04).chg c46).chg c68).1 (star_is ho1 hla)) ?_
        intro v w9 hr
        obtain ⟨c9, u9, q9, n9, k9, e9, rfl, i9⟩ := hr.inf
        refine ⟨_, rfl, _, _, rfl, _, rfl, _, _, rfl, _, rfl, _, _, rfl, _, rfl, _, _, rfl, _, rfl, _, _, rfl, _, _, _, rfl, _, _, rfl, _, _, _, rfl, rfl, _, _, rfl, rfl, ?_⟩
        refine (put4 (w := w9) (vs := vs5 u9 q9 n9 k9) (cs := zs5) (blk_alloc w9 _) (chg_alloc w9 _ _) (Nat.le_refl _) rfl (by simp [oneC]) fun wA bA cA _ zA => ?_ : setsW _ _ _ _ _)
        have c8A := c9.trans cA
        have c4A := (c46.trans c68).trans c8A
        have c0A := c04.trans c4A
        obtain ⟨rfl, h5, g5, rfl, _⟩ := i5
        have D7 : Dp e7 wA := (i7.dp.chg c8).chg c8A
        have D9 : Dp e9 wA := i9.dp.chg cA
        have hd := deeps hL c0A (.inl rfl : Dp .nilIface wA) D7 D9
        by_cases s7 : smallS [.mk 9 0 0 [p, q]] = true
        · by_cases s9 : smallS [.mk 10 0 0 [p]] = true
          · unfold endO at i7 i9
            rw [if_pos s7] at i7
            rw [if_pos s9] at i9
            obtain ⟨rfl, h7, g7, rfl, _⟩ := i7
            obtain ⟨rfl, h9, g9, rfl, _⟩ := i9
            refine ⟨fun _ w' => wA = w', ?_, .inl rfl, ?_⟩
            · rintro _ _ rfl _
              have P1 : u1.is wA p := h1.keep ((c2.trans c24).trans c4A)
              have P2 : u2.is wA q := h2.keep (c4.trans c4A)
              refine ⟨fun _ wx => Chg NoS wA wx, ?_, NoS, fun x => x, _, ld5 b6 ((c68.trans c8A).trans (chg_drew _ _)) 0 _ rfl, _, ld5 b6 ((c68.trans c8A).trans (chg_drew _ _)) 1 _ rfl, _, ld5 b6 ((c68.trans c8A).trans (chg_drew _ _)) 2 _ rfl, _, _, _, ld5 b6 ((c68.trans c8A).trans (chg_drew _ _)) 3 _ rfl, _, _, _, ld5 b6 ((c68.trans c8A).trans (chg_drew _ _)) 4 _ rfl, fun x => x,
                _, ld5 b2 ((c24.trans c4A).trans (chg_drew _ _)) 0 _ rfl, _, ld5 b2 ((c24.trans c4A).trans (chg_drew _ _)) 1 _ rfl, _, ld5 b2 ((c24.trans c4A).trans (chg_drew _ _)) 2 _ rfl, _, _, _, ld5 b2 ((c24.trans c4A).trans (chg_drew _ _)) 3 _ rfl, _, _, _, ld5 b2 ((c24.trans c4A).trans (chg_drew _ _)) 4 _ rfl, ?_⟩
              · intro _ wx cx _
                have cxd := cx.trans (chg_drew wx NoS)
                have h7x := h7.keep (((c8.trans c8A).trans cx).trans (chg_drew _ _))
                unfold V4.is at h7x
                simp only [TVal, KsAt, List.length_cons, List.length_nil] at h7x
                obtain ⟨x1, x2, x3, x4, _, _, _, ⟨A, op1, f1, m1, b1, l1, d1, hA, y0, y1, y2, y3, y4⟩, ⟨A', op2, f2, m2, b2', l2, d2, hA', z0, z1, z2', z3, z4'⟩, _⟩ := h7x
                rw [hA] at hA'
                obtain rfl : A = A' := by injection hA'
                refine ⟨NoS, fun x => x, _, by rw [addK_zero]; exact ld5 b8 (c8A.trans cxd) 0 _ rfl, ?_⟩
                rw [if_pos (by simp [x1])]
                refine ⟨fun x => x, _, _, _, by rw [addK_zero]; exact ld5 b8 (c8A.trans cxd) 3 _ rfl, ?_⟩
                rw [if_pos (by simp [x4])]
                refine ⟨fun x => x, _, _, _, by rw [addK_zero]; exact ld5 b8 (c8A.trans cxd) 3 _ rfl, by omega, by rw [x4]; decide, ?_⟩
                rw [hA]
                refine some_w ⟨fun x => x, _, y0, _, y1, _, y2, _, _, _, y3, fun x => x, _, by rw [addK_zero]; exact ld5 b2 ((c24.trans c4A).trans cxd) 0 _ rfl, _, by rw [addK_zero]; exact ld5 b2 ((c24.trans c4A).trans cxd) 1 _ rfl, _, by rw [addK_zero]; exact ld5 b2 ((c24.trans c4A).trans cxd) 2 _ rfl, _, _, _, by rw [addK_zero]; exact ld5 b2 ((c24.trans c4A).trans cxd) 3 _ rfl, ?_⟩
                refine Calls.then (Terms_ok p p ⟨op1, f1, m1, b1, l1, d1⟩ u1 wx.drew y4 (P1.keep cxd)) ?_
                rintro v wy ⟨bb, rfl, hbb, cy⟩
                obtain rfl : bb = true := hbb.2 rfl
                refine ⟨true, rfl, NoS, ?_⟩
                rw [if_pos rfl]
                have cxy := cxd.trans cy
                refine ⟨fun x => x, _, _, _, by rw [addK_zero]; exact ld5 b8 (c8A.trans cxy) 3 _ rfl, by omega, by rw [x4]; decide, ?_⟩
                rw [hA]
                have kk : ∀ {A : Addr} {v : Value}, wx.drew.cell? A = some v → wy.cell? A = some v := fun h => cell_keep' (S := NoS) h cy
                refine some_w ⟨fun x => x, _, kk z0, _, kk z1, _, kk z2', _, _, _, kk z3, fun x => x, _, by rw [addK_zero]; exact ld5 b4 (c4A.trans cxy) 0 _ rfl, _, by rw [addK_zero]; exact ld5 b4 (c4A.trans cxy) 1 _ rfl, _, by rw [addK_zero]; exact ld5 b4 (c4A.trans cxy) 2 _ rfl, _, _, _, by rw [addK_zero]; exact ld5 b4 (c4A.trans cxy) 3 _ rfl, ?_⟩
                refine Calls.then (Terms_ok q q ⟨op2, f2, m2, b2', l2, d2⟩ u2 wy (TVal.keep cy z4') (P2.keep cxy)) ?_
                rintro v wz ⟨bb, rfl, hbb, cz⟩
                obtain rfl : bb = true := hbb.2 rfl
                refine ⟨true, rfl, NoS, ?_⟩
                rw [if_pos rfl]
                exact wakeK hL ((c0A.trans cxy).trans cz)
              · refine Calls.then (Policies_ok (va := u5) (vb := u1) (ma := p) (mb := p) (qa := []) (qb := []) (h5.keep (((c6.trans c68).trans c8A).trans (chg_drew _ _))) (P1.keep (chg_drew _ _)) (fun j q hq => by simp at hq) (fun j q hq => by simp at hq) rfl rfl (by decide)) ?_
                rintro v wx ⟨bb, rfl, hbb, cx⟩
                obtain rfl : bb = true := hbb.2 ⟨rfl, rfl⟩
                have cxd := (chg_drew wA NoS).trans cx
                have h9x := h9.keep (cA.trans cxd)
                unfold V4.is at h9x
                simp only [TVal, KsAt, List.length_cons, List.length_nil] at h9x
                obtain ⟨x1, x2, x3, x4, _, _, _, ⟨A, op1, f1, m1, b1, l1, d1, hA, y0, y1, y2, y3, y4⟩, _⟩ := h9x
                refine ⟨true, rfl, NoS, ?_⟩
                rw [if_pos (by rfl)]
                refine ⟨fun x => x, _, by rw [addK_zero]; exact ld5 bA cxd 0 _ rfl, ?_⟩
                rw [if_pos (by simp [x1])]
                refine ⟨fun x => x, _, _, _, by rw [addK_zero]; exact ld5 bA cxd 3 _ rfl, ?_⟩
                rw [if_pos (by simp [x4])]
                refine ⟨fun x => x, _, _, _, by rw [addK_zero]; exact ld5 bA cxd 3 _ rfl, by omega, by rw [x4]; decide, ?_⟩
                rw [hA]
                refine some_w ⟨fun x => x, _, y0, _, y1, _, y2, _, _, _, y3, fun x => x, _, by rw [addK_zero]; exact ld5 b2 ((c24.trans c4A).trans cxd) 0 _ rfl, _, by rw [addK_zero]; exact ld5 b2 ((c24.trans c4A).trans cxd) 1 _ rfl, _, by rw [addK_zero]; exact ld5 b2 ((c24.trans c4A).trans cxd) 2 _ rfl, _, _, _, by rw [addK_zero]; exact ld5 b2 ((c24.trans c4A).trans cxd) 3 _ rfl, ?_⟩
                refine Calls.then (Terms_ok p p ⟨op1, f1, m1, b1, l1, d1⟩ u1 wx y4 (P1.keep cxd)) ?_
                rintro v wy ⟨bb, rfl, hbb, cy⟩
                obtain rfl : bb = true := hbb.2 rfl
                refine ⟨true, rfl, kept_of_ cy, ?_⟩
                rw [if_neg (by simp)]
                exact ⟨(), trivial, cxd.trans cy⟩
            · rw [if_pos (by rfl)]
              refine ⟨.inl rfl, ?_⟩
              rw [if_pos (by rfl)]
              refine ⟨.inl rfl, ?_⟩
              rw [if_neg (by simp [isNilI])]
              exact ⟨(), trivial, rfl⟩
          · refine ⟨fun _ _ => False, fun _ _ h => h.elim, .inl rfl, ?_⟩
            rw [if_pos (by rfl)]
            refine ⟨i7.shape, ?_⟩
            by_cases h7 : (!isNilI e7) = false
            · rw [if_pos h7]
              refine ⟨i9.shape, ?_⟩
              unfold endO at i9
              rw [if_neg s9] at i9
              obtain ⟨z, rfl, _⟩ := i9
              rw [if_pos (by rfl)]
              exact hd
            · rw [if_neg h7]
              exact hd
        · refine ⟨fun _ _ => False, fun _ _ h => h.elim, .inl rfl, ?_⟩
          rw [if_pos (by rfl)]
          refine ⟨i7.shape, ?_⟩
          unfold endO at i7
          rw [if_neg s7] at i7
          obtain ⟨z, rfl, _⟩ := i7
          rw [if_neg (by simp [isNilI])]
          exact hd
      · refine ⟨.inl rfl, ?_⟩
        rw [if_pos (by rfl)]
        refine ⟨.inl rfl, ?_⟩
        rw [if_pos (by rfl)]
        refine ⟨_, _, _, ld5 b2 c24 4 _ rfl, ?_⟩
        rw [if_pos (by rfl)]
        refine ⟨_, _, _, ld5 b4 (Chg.refl NoS w4) 4 _ rfl, ?_⟩
        rw [if_neg (by simp)]
        exact ⟨(), trivial, rfl⟩
    · refine ⟨fun _ _ => False, fun _ _ h => h.elim, i1.shape, ?_⟩
      by_cases h1 : (!isNilI e1) = false
      · rw [if_pos h1]
        refine ⟨i2.shape, ?_⟩
        by_cases h2 : (!isNilI e2) = false
        · rw [if_pos h2]
          refine ⟨_, _, _, ld5 b2 c24 4 _ rfl, ?_⟩
          by_cases h3 : decide ((n1 : Int) > 0) = false
          · rw [if_pos h3]
            refine ⟨_, _, _, ld5 b4 (Chg.refl NoS w4) 4 _ rfl, ?_⟩
            by_cases h4 : decide ((n2 : Int) > 0) = true
            · rw [if_pos h4]
              exact wake2 hL c04
            · exfalso
              refine good ⟨?_, ?_⟩
              · cases o1 with
                | fault _ _ _ => obtain ⟨z, rfl, _⟩ := i1; simp [isNilI] at h1
                | ok p qs =>
                  obtain ⟨_, _, _, hn, _⟩ := i1
                  have : n1 = 0 := by simp at h3; omega
                  exact ⟨p, by rw [List.length_eq_zero_iff.1 (hn.symm.trans this)]⟩
              · cases o2 with
                | fault _ _ _ => obtain ⟨z, rfl, _⟩ := i2; simp [isNilI] at h2
                | ok p qs =>
                  obtain ⟨_, _, _, hn, _⟩ := i2
                  have : n2 = 0 := by simp at h4; omega
                  exact ⟨p, by rw [List.length_eq_zero_iff.1 (hn.symm.trans this)]⟩
          · rw [if_neg h3]
            exact wake2 hL c04
        · rw [if_neg h2]
          exact wake2 hL c04
      · rw [if_neg h1]
        exact wake2 hL c04
  · by_cases ha : decide (((bs a).size : Int) > 4096) = false
    · rw [if_pos ha]
      by_cases hb : decide (((bs b).size : Int) > 4096) = true
      · rw [if_pos hb]
        exact wake2 hL (Chg.refl NoS w)
      · rw [if_neg hb]
        simp only [bs_size] at ha hb
        exact ⟨(), trivial, rfl, by simp at ha; omega, by simp at hb; omega⟩
    · rw [if_neg ha]
      exact wake2 hL (Chg.refl NoS w)
end Go.Proofs.YtgoanblnkdihfaaGreatDoor.B
