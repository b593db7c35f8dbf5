/-
  line: what the law says of two ends (wakes).
-/
import Derived.Test.YtooebmpjmcmkoaaLinM
import Derived.Test.YtooebmpjmcmkoaaEngN
set_option maxRecDepth 100000
set_option linter.unusedVariables false
set_option linter.unusedSimpArgs false
namespace Go.Proofs.Ytooebmpjmcmkoaa.B
open Go Go.Proofs Go.Proofs.YtooebmpjmcmkoaaEng

def wa1 : Lm := ⟨3, [[120]], 0, 0, []⟩
def wa2 : Lm := ⟨3, [[120], [121]], 0, 0, []⟩
def wa3 : Lm := ⟨3, [], 2, 0, []⟩
def wb1 : Lm := ⟨3, [], 0, 2, [[120], [121]]⟩
def wb2 : Lm := ⟨3, [], 0, 2, []⟩
theorem wsend1 : (Lm.new 3).send [120] = (0, wa1) := rfl
theorem wsend2 : wa1.send [121] = (0, wa2) := rfl
theorem wpay : parse wa2.payload = some ⟨3, 0, 0, [[120], [121]]⟩ := by kernel_rfl
theorem wpay2 : parse wb2.payload = some ⟨3, 2, 0, []⟩ := by kernel_rfl
theorem wtake1 : (Lm.new 3).take (S.sealed wa2.payload) = (0, wb1) := by
  rw [take_sealed _ _ (by rw [(payload_len _).1]; omega), wpay]
  kernel_rfl
theorem wtake2 : wb1.take (S.sealed wa2.payload) = (0, wb1) := by
  rw [take_sealed _ _ (by rw [(payload_len _).1]; omega), wpay]
  kernel_rfl
theorem wtake3 : wa2.take (S.sealed wb2.payload) = (0, wa3) := by
  rw [take_sealed _ _ (by rw [(payload_len _).1]; omega), wpay2]
  kernel_rfl
theorem wlen : (S.sealed wb2.payload).length = 18 := by
  rw [S.sealed_length, (payload_len _).1]
  rfl
theorem wrow2 : ∀ l ∈ wa2.sent, l.length ≤ 8192 := by intro l hl; simp [wa2] at hl; rcases hl with rfl | rfl <;> simp
/-- two ends stand -/
def TwoE (w0 w : World) (p q : Nat) (ma mb : Lm) : Prop := ∃ X ms, Ent w0 w X ms ∧ ms 0 = some (54, p, ma) ∧ ms 1 = some (54, q, mb)

theorem wakes_ok (w : World) : Calls Try.prog 10 #[] w (endW (fun v w' => v = .bool true ∧ Chg NoS w w') (fun _ _ => False)) := by
  refine F10_calls ?_
  delta F10
  refine Calls.then (New_ok (ep := 3)) ?_
  rintro v w1 ⟨rfl, rfl⟩
  refine ⟨_, rfl, ?_⟩
  refine Calls.then (New_ok (ep := 3)) ?_
  rintro v w1 ⟨rfl, rfl⟩
  refine ⟨_, rfl, ?_⟩
  obtain ⟨X, h0⟩ := two_new (w := w) (e1 := 3) (e2 := 3)
  generalize (w.alloc (.cells (ecells (Lm.new 3) (.slice none 0 0) (.slice none 0 0)) 54)).alloc (.cells (ecells (Lm.new 3) (.slice none 0 0) (.slice none 0 0)) 54) = w1 at h0 ⊢
  generalize (w.alloc (.cells (ecells (Lm.new 3) (.slice none 0 0) (.slice none 0 0)) 54)).heap.size = q at h0 ⊢
  generalize hpp : w.heap.size = p at h0 ⊢
  refine ⟨fun _ w' => TwoE w w' p q wa2 (Lm.new 3), ?_, ?_⟩
  · rintro s w2 ⟨X, ms, h2, ha, hb⟩ _
    refine Calls.then (h2.tick ha (by decide) wrow2) ?_
    rintro v w3 ⟨hc3, b, rv, rfl, hbs, hbl, hrow⟩
    obtain ⟨h3, hk3⟩ := h2.quiet hc3
    refine ⟨_, _, _, rfl, fun _ w' => TwoE w w' p q wa2 wb1, ?_, ?_⟩
    · rintro s w4 ⟨X4, ms4, h4, ha4, hb4⟩ _
      refine Calls.then (h4.came hb4) ?_
      rintro v w5 ⟨X5, h5, hk5, hc5, _, a5, c5, us, rfl, ho5, hr5, hx5⟩
      refine ⟨_, _, _, rfl, ?_⟩
      have ha5 : upd ms4 1 (54, q, { wb1 with fresh := [] }) 0 = some (54, p, wa2) := by rw [upd_other (by decide)]; exact ha4
      refine Calls.then (h5.tick upd_same (by decide) (by intro l hl; cases hl)) ?_
      rintro v w6 ⟨hc6, b6, rv6, rfl, hbs6, hbl6, hrow6⟩
      obtain ⟨h6, hk6⟩ := h5.quiet hc6
      refine ⟨_, _, _, rfl, fun _ w' => TwoE w w' p q wa3 wb2 ∧ w'.heap[b6]? = some (.cells #[rv6] 31 (0, 0)), ?_, ?_⟩
      · rintro s w7 ⟨⟨X7, ms7, h7, ha7, hb7⟩, hbl7⟩ _
        refine Calls.then (h7.left ha7) ?_
        rintro v w8 ⟨rfl, rfl⟩
        refine ⟨_, rfl, ?_⟩
        rw [if_pos (by simp [wa3])]
        obtain ⟨ra, rc, rfl, _⟩ := hrow6
        refine ⟨by omega, by omega, wSome_of rfl ⟨_, _, _, by rw [addK_lit, cell_blk hbl7]; rfl, ?_, h7.ch⟩⟩
        have : (S.sealed ({ wb1 with fresh := [] } : Lm).payload).length = 18 := wlen
        rw [this]
        rfl
      · rw [if_pos (by simp [wb1])]
        have ho6 := ho5.chg hc6 fun k _ h => h
        have hr6 := hr5.chg hc6 fun k _ h => h.elim
        obtain ⟨v0, hv0, hrow0⟩ := hr6.get (j := 0) (l := [120]) rfl
        obtain ⟨v1, hv1, hrow1⟩ := hr6.get (j := 1) (l := [121]) rfl
        obtain ⟨A, rfl, hcell0⟩ := ho6.reads 0 _ hv0
        obtain ⟨A', e, hcell1⟩ := ho6.reads 1 _ hv1
        cases e
        obtain ⟨r0, c0, rfl, _⟩ := id hrow0
        obtain ⟨r1, c1, rfl, _⟩ := id hrow1
        refine ⟨by omega, by simp [wb1], wSome_of rfl ⟨_, _, _, hcell0, ?_⟩⟩
        refine bytes_str S.bT (by kernel_rfl) rfl (RowIn.rd hrow0).1 ?_
        refine ⟨_, rfl, ?_⟩
        rw [if_pos (by simp)]
        refine ⟨by omega, by simp [wb1], wSome_of rfl ⟨_, _, _, hcell1, ?_⟩⟩
        refine bytes_str S.bT (by kernel_rfl) rfl (RowIn.rd hrow1).1 ?_
        refine ⟨_, rfl, ?_⟩
        rw [if_pos (by simp), if_pos (by simp)]
        refine Calls.then (h6.left ha5) ?_
        rintro v w8 ⟨rfl, rfl⟩
        refine ⟨_, rfl, ?_⟩
        rw [if_pos (by simp [wa2])]
        obtain ⟨ra, rc, rfl, hrl, hr0', hrr, _⟩ := hrow6
        refine ⟨by omega, by omega, wSome_of rfl ⟨_, _, _, by rw [addK_lit, cell_blk hbl6]; rfl, ?_⟩⟩
        have h18 : (S.sealed ({ wb1 with fresh := [] } : Lm).payload).length = 18 := wlen
        refine Calls.then (h6.take ha5 ⟨by decide, by decide, by decide, by decide, by decide⟩ rfl hrl hrr (by rw [h18]; omega)) ?_
        rintro v w9 ⟨rfl, X9, h9, hk9, hc9, _⟩
        have ht3 : wa2.take (S.sealed ({ wb1 with fresh := [] } : Lm).payload) = (0, wa3) := wtake3
        rw [ht3] at h9 ⊢
        refine ⟨_, rfl, ?_⟩
        rw [if_neg (by simp)]
        refine ⟨(), trivial, ⟨X9, _, h9, upd_same, by rw [upd_other (by decide), upd_same]; rfl⟩, hc9.blk hbl6 fun hx => by have := (h5.lt _ hx).2; omega⟩
    · rw [if_pos (by simp)]
      obtain ⟨ra, rc, rfl, hrl, hr0', hrr, _⟩ := id hrow
      have hlen : (S.sealed wa2.payload).length ≤ 20000 := by rw [S.sealed_length]; have := (payload_len wa2).2; omega
      refine ⟨by omega, by omega, wSome_of rfl ⟨_, _, _, by rw [addK_lit, cell_blk hbl]; rfl, ?_⟩⟩
      refine Calls.then (h3.take hb ⟨by decide, by decide, by decide, by decide, by decide⟩ rfl hrl hrr (by omega)) ?_
      rintro v w4 ⟨rfl, X4, h4, hk4, hc4, _⟩
      rw [wtake1] at h4 ⊢
      refine ⟨_, rfl, ?_⟩
      rw [if_pos (by simp)]
      have hbl4 := hc4.blk hbl fun hx => by have := (h2.lt _ hx).2; omega
      obtain ⟨hrr4, -, hrl4, -⟩ := RowIn.rd (hk4 _ _ hrow)
      refine ⟨by omega, by omega, wSome_of rfl ⟨_, _, _, by rw [addK_lit, cell_blk hbl4]; rfl, ?_⟩⟩
      refine Calls.then (h4.take upd_same ⟨by decide, by decide, by decide, by decide, by decide⟩ rfl hrl4 hrr4 (by omega)) ?_
      rintro v w5 ⟨rfl, X5, h5, hk5, hc5, _⟩
      rw [wtake2] at h5 ⊢
      refine ⟨_, rfl, ?_⟩
      rw [if_neg (by simp)]
      exact ⟨(), trivial, X5, _, h5, by rw [upd_other (by decide), upd_other (by decide)]; exact ha, upd_same⟩
  · refine conv_const S.bT.und S.bT.u8 ?_
    intro w2 hb2 hr2 hc2 hz2
    obtain ⟨h2, hk2⟩ := h0.quiet hc2
    refine ⟨_, _, _, rfl, ?_⟩
    refine Calls.then (h2.send (i := 0) (bs := [120]) rfl (by decide) rfl hr2 (fun e => by cases e)) ?_
    rintro v w3 ⟨rfl, X3, h3, hk3, hc3, _⟩
    rw [wsend1] at h3 ⊢
    refine ⟨_, rfl, ?_⟩
    rw [if_pos (by simp)]
    refine conv_const S.bT.und S.bT.u8 ?_
    intro w4 hb4 hr4 hc4 hz4
    obtain ⟨h4, hk4⟩ := h3.quiet hc4
    refine ⟨_, _, _, rfl, ?_⟩
    refine Calls.then (h4.send (i := 0) (bs := [121]) upd_same (by decide) rfl hr4 (fun e => by cases e)) ?_
    rintro v w5 ⟨rfl, X5, h5, hk5, hc5, _⟩
    rw [wsend2] at h5 ⊢
    refine ⟨_, rfl, ?_⟩
    rw [if_neg (by simp)]
    exact ⟨(), trivial, X5, _, h5, upd_same, by rw [upd_other (by decide), upd_other (by decide), upd_same]⟩
end Go.Proofs.Ytooebmpjmcmkoaa.B
