/-
  show: ShowAgain walked.
-/
import Derived.Test.YtpolbdakhfcilaaGreatDoorShY
import Derived.Test.YtpolbdakhfcilaaGreatDoorShQ
import Derived.Test.YtpolbdakhfcilaaGreatDoorPaP
import Derived.Test.YtpolbdakhfcilaaGreatDoorBR
set_option maxRecDepth 100000
set_option linter.unusedVariables false
set_option linter.unusedSimpArgs false
namespace Go.Proofs.YtpolbdakhfcilaaGreatDoor.B
open Go Go.Proofs Go.Proofs.YtpolbdakhfcilaaGreatDoorEng Go.RowKit

theorem wake2 {w wx : World} (hL : Libs w) (hc : Chg NoS w wx) : Calls Tryz.prog 8 #[] wx (endW (fun v w' => ∃ b, v = .bool b ∧ (Value.bool b = .bool true ∧ Chg NoS w w')) (fun _ _ => False)) :=
  Calls.then (wakes_ok wx (hL.chg hc)) fun v w' h => ⟨true, h.1, rfl, hc.trans h.2⟩
abbrev vs5 (u : V4) (qa : Option Addr) (n k : Nat) : List Value := [.int .i8 u.op, .int .i8 u.f, .int .u64 u.n, .slice u.b u.m u.c, .slice qa n k]
abbrev zs5 : List Value := [.int .i8 0, .int .i8 0, .int .u64 0, .slice none 0 0, .slice none 0 0]
theorem ld5 {w0 wx : World} {g : Nat} {vs : List Value} {t : TypeId} (b : w0.heap[g]? = some (.cells vs.toArray t (0, 0))) (hc : Chg NoS w0 wx) (k : Nat) (v : Value) (hv : vs[k]? = some v) : wx.cell? (addK ⟨g, 0, none⟩ k) = some v := get_blk (hc.blk b fun x => x) k v hv
/-- what stands in an answer of Policy, also where it is a fault -/
theorem RetF.inf2 {w w' : World} {o : Fo} {v : Value} (h : RetF w o v w') : Chg NoS w w' ∧ ∃ u qa c e m q, v = .tuple #[.agg (parr u qa (bsQ q).length c), e] ∧ u.is w' m ∧ QsAt w' (bsQ q) qa ∧ (bsQ q).length ≤ 70000 ∧ ((o = .ok m q ∧ e = .nilIface) ∨ ((∃ a b c, o = .fault a b c) ∧ m = .mk 0 0 0 [] ∧ q = [] ∧ ∃ t z, e = .iface t z)) := by
  obtain ⟨hc, h⟩ := h
  refine ⟨hc, ?_⟩
  cases o with
  | ok main qs =>
    obtain ⟨u, qa, c, rfl, h1, h2, h3⟩ := h
    exact ⟨u, qa, c, _, main, qs, by rw [bsQ_len], h1, h2, by rw [bsQ_len]; exact h3, .inl ⟨rfl, rfl⟩⟩
  | fault code pos txt =>
    obtain ⟨p, rfl, _, h2⟩ := h
    exact ⟨⟨0, 0, 0, none, 0, 0⟩, none, 0, _, .mk 0 0 0 [], [], rfl, by simp [V4.is, TVal, KsAt], fun j q hq => by simp [bsQ] at hq, by simp [bsQ], .inr ⟨⟨_, _, _, rfl⟩, rfl, rfl, _, _, rfl⟩⟩
theorem bs_beq (x : List UInt8) : (ByteArray.toList (bs x) == ByteArray.toList (bs x)) = true := by simp
theorem ShowAgain_w (s0 : ByteArray) (w : World) (hL : Libs w) : Calls Tryz.prog 5 #[.string s0] w (endW (fun v w' => v = .bool true ∧ Chg NoS w w') (fun _ _ => False)) := by
  obtain ⟨t, rfl⟩ : ∃ t, s0 = bs t := ⟨_, (bs_data s0).symm⟩
  refine F5_calls _ ?_
  delta F5
  refine Calls.then (Policy_ok w t hL.1) ?_
  rintro v w2 ⟨o, hoP, hr⟩
  obtain ⟨c2, u1, q1, k1, e1', m1, l1, rfl, hu1, hq1, hl1, hx1⟩ := hr.inf2
  refine ⟨_, rfl, _, _, rfl, _, rfl, _, _, rfl, _, rfl, _, _, rfl, _, rfl, _, _, rfl, _, rfl, _, _, rfl, _, _, _, rfl, _, _, rfl, _, _, _, rfl, rfl, _, _, rfl, rfl, ?_⟩
  refine (put4 (w := w2) (vs := vs5 u1 q1 (bsQ l1).length k1) (cs := zs5) (blk_alloc w2 _) (chg_alloc w2 _ _) (Nat.le_refl _) rfl (by simp [oneC]) fun w3 b3 c3 _ _ => ?_ : setsW _ _ _ _ _)
  have c03 := c2.trans c3
  rcases hx1 with ⟨rfl, rfl⟩ | ⟨_, _, _, t1, z1, rfl⟩
  rotate_left
  · refine ⟨.inr ⟨_, _, rfl⟩, ?_⟩
    rw [if_pos (by rfl)]
    exact wake2 hL c03
  refine ⟨.inl rfl, ?_⟩
  rw [if_neg (by decide)]
  refine ⟨_, get_blk b3 0 _ rfl, _, get_blk b3 1 _ rfl, _, get_blk b3 2 _ rfl, _, _, _, get_blk b3 3 _ rfl, _, _, _, get_blk b3 4 _ rfl, ?_⟩
  refine Calls.then (Text_ok w3 (hL.chg c03).2 (hu1.keep c3) (hq1.keep c3) rfl) ?_
  rintro v w4 ⟨o2, ho2, rfl, c4⟩
  refine ⟨_, rfl, _, _, rfl, _, rfl, _, _, rfl, _, rfl, rfl, ?_⟩
  have c04 := c03.trans c4
  rcases id ho2 with ⟨hR, hlen, rfl⟩ | ⟨_, _, rfl⟩ | ⟨_, rfl⟩
  rotate_left
  · rw [if_pos (by decide), if_pos (by show (ByteArray.toList (bs []) == ByteArray.toList (bs [])) = true; simp)]
    exact wake2 hL c04
  · rw [if_pos (by decide), if_pos (by show (ByteArray.toList (bs []) == ByteArray.toList (bs [])) = true; simp)]
    exact wake2 hL c04
  rw [if_neg (by show ¬ (((0 : Int) != 0) = true); decide)]
  obtain ⟨hbm, hbq⟩ := read_bare hoP
  have hback := back_is hR hbm.2 (fun q hq => by
    obtain ⟨x, hx, rfl⟩ := List.mem_map.1 hq
    exact (hbq x hx).2) hlen
  rw [hbm.1, bsQ_back hbq] at hback
  refine Calls.then (Policy_is (hL.chg c04).1 hback) ?_
  rintro v w5 ⟨c5, u2, q2, k2, rfl, hu2, hq2, hl2⟩
  refine ⟨_, rfl, _, _, rfl, _, rfl, _, _, rfl, _, rfl, _, _, rfl, _, rfl, _, _, rfl, _, rfl, _, _, rfl, _, _, _, rfl, _, _, rfl, _, _, _, rfl, rfl, _, _, rfl, rfl, ?_⟩
  refine (put4 (w := w5) (vs := vs5 u2 q2 l1.length k2) (cs := zs5) (blk_alloc w5 _) (chg_alloc w5 _ _) (Nat.le_refl _) rfl (by simp [oneC]) fun w6 b6 c6 _ _ => ?_ : setsW _ _ _ _ _)
  have c06 := (c04.trans c5).trans c6
  refine ⟨_, get_blk b6 0 _ rfl, _, get_blk b6 1 _ rfl, _, get_blk b6 2 _ rfl, _, _, _, get_blk b6 3 _ rfl, _, _, _, get_blk b6 4 _ rfl, ?_⟩
  refine Calls.then (Text_is (hL.chg c06).2 (hu2.keep c6) (hq2.keep c6) (bsQ_len l1).symm ho2) ?_
  rintro v w7 ⟨rfl, c7⟩
  refine ⟨_, rfl, _, _, rfl, _, rfl, _, _, rfl, _, rfl, rfl, ?_⟩
  have c07 := c06.trans c7
  have c37 := ((c4.trans c5).trans c6).trans c7
  refine ⟨.inl rfl, ?_⟩
  rw [if_pos (by rfl), if_pos (by rfl), if_pos (bs_beq _)]
  refine ⟨_, ld5 b3 c37 0 _ rfl, _, ld5 b3 c37 1 _ rfl, _, ld5 b3 c37 2 _ rfl, _, _, _, ld5 b3 c37 3 _ rfl, _, _, _, ld5 b3 c37 4 _ rfl, _, ld5 b6 c7 0 _ rfl, _, ld5 b6 c7 1 _ rfl, _, ld5 b6 c7 2 _ rfl, _, _, _, ld5 b6 c7 3 _ rfl, _, _, _, ld5 b6 c7 4 _ rfl, ?_⟩
  refine Calls.then (Policies_ok (va := u1) (vb := u2) (ma := m1) (mb := m1) (qa := bsQ l1) (qb := bsQ l1) (hu1.keep (c3.trans c37)) (hu2.keep (c6.trans c7)) (hq1.keep (c3.trans c37)) (hq2.keep (c6.trans c7)) rfl (bsQ_len l1).symm (by omega)) ?_
  rintro v w8 ⟨bb, rfl, hbb, c8⟩
  obtain rfl : bb = true := hbb.2 ⟨rfl, rfl⟩
  refine ⟨true, rfl, ?_⟩
  rw [if_pos rfl]
  exact wake2 hL (c07.trans c8)
theorem ShowAgain_walk (s0 : ByteArray) (w : World) (i0 : Is maxLen Tryz.prog w 12 9 [.string s0]) (hL : Libs w) :
    Calls Tryz.prog 5 #[.string s0] w (endW (fun v w' => v = .bool true ∧ Chg NoS w w') (fun _ _ => False)) := ShowAgain_w s0 w hL
end Go.Proofs.YtpolbdakhfcilaaGreatDoor.B
