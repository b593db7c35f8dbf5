/-
  show: ShowBack walked.
-/
import Derived.Test.YtpolbdakhfcilaaGreatDoorShZ
import Derived.Test.YtpolbdakhfcilaaGreatDoorShBa
set_option maxRecDepth 100000
set_option linter.unusedVariables false
set_option linter.unusedSimpArgs false
namespace Go.Proofs.YtpolbdakhfcilaaGreatDoor.B
open Go Go.Proofs Go.Proofs.YtpolbdakhfcilaaGreatDoorEng Go.RowKit

theorem nnL_of : ∀ {ks : List Tm}, (∀ k ∈ ks, nnT k) → nnL ks
  | [], _ => trivial
  | k :: ks, h => by
    simp only [nnL]
    exact ⟨h k (by simp), nnL_of fun x hx => h x (List.mem_cons_of_mem _ hx)⟩
theorem nn_of : ∀ (t : Tm) (v : V4) (w : World), v.is w t → nnT t := by
  intro t
  generalize hs : tsize t = sz
  induction sz using Nat.strongRecOn generalizing t with
  | _ sz ih =>
    subst hs
    intro v w hv
    obtain ⟨ks, rfl, hlen, hmc, hcm, h4, hget⟩ := TVal.parts hv
    simp only [nnT]
    refine ⟨h4.2.2.2.2.1, h4.2.2.2.2.2, nnL_of fun k hk => ?_⟩
    obtain ⟨j, hj, rfl⟩ := List.mem_iff_getElem.1 hk
    obtain ⟨A, hA, hT⟩ := hget j _ (List.getElem?_eq_getElem hj)
    obtain ⟨o, f, n, b, m, c', q0, q1, q2, q3, hq⟩ := hT
    exact ih _ (tsize_kid (List.getElem_mem hj)) _ rfl ⟨o, f, n, b, m, c'⟩ w hq
theorem nn_q {w : World} {qs : List Qu} {a : Option Addr} (h : QsAt w qs a) : ∀ q ∈ qs, nnT q.2 := fun q hq => by
  obtain ⟨j, hj, rfl⟩ := List.mem_iff_getElem.1 hq
  obtain ⟨A, v, _, _, _, _, _, _, hv⟩ := h.cells (List.getElem?_eq_getElem hj)
  exact nn_of _ v w hv
def bareQ (q : Qu) : Qu := (q.1, bareT q.2)
theorem bsQ_bare (qs : List Qu) : bsQ (qs.map fun q => (nmL q, bareT q.2)) = qs.map bareQ := by
  unfold bsQ
  rw [List.map_map]
  refine List.map_congr_left fun q hq => ?_
  show (bs (nmL q), bareT q.2) = bareQ q
  unfold nmL bareQ
  rw [bs_data]
/-- the loop over queries: j are copied into the row of the policy in block g -/
structure QSt (w wx : World) (g : Nat) (u : V4) (qs : List Qu) (j : Nat) : Prop where
  hc : Chg (OnlyB g) w wx
  b : ∃ us a c, wx.heap[g]? = some (.cells (parr u a j c) 29 (0, 0)) ∧ wx.ownsRow (g + 1) 41 5 (.slice a j c) j (flatQ us) ∧ QO wx (fun k => g + 1 ≤ k ∧ k < wx.heap.size ∧ (Value.slice a j c).ownBlock ≠ some k) us ((qs.take j).map bareQ)
theorem get_arr1 {w : World} {g : Nat} {cs : Array Value} {t : TypeId} (h : w.heap[g]? = some (.cells cs t (0, 0))) (i j : Nat) (v : Value) (hv : cs[i + j]? = some v) : w.cell? (addK (addK ⟨g, 0, none⟩ i) j) = some v := by
  rw [addK_addK]
  exact get_arr h _ v hv
theorem flat_q (s : ByteArray) (u : V4) : flatQ [(s, u)] = qcells (s, u) := by simp [flatQ]
theorem ShowBack_w (w : World) (u : V4) (qa : Option Addr) (n c : Nat) (main : Tm) (qs : List Qu) (hu : u.is w main) (hq : QsAt w qs qa) (hn : n = qs.length) (hL : Libs w) :
    Calls Tryz.prog 4 #[.agg (parr u qa n c)] w (endW (fun v w' => v = .bool true ∧ Chg NoS w w') (fun _ _ => False)) := by
  refine F4_calls u.op u.f u.n u.b u.m u.c qa n c ?_
  delta F4
  have c0 : Chg NoS w (w.alloc (.cells (parr u qa n c) 29)) := chg_alloc w _ _
  have b0 : (w.alloc (.cells (parr u qa n c) 29)).heap[w.heap.size]? = some (.cells (parr u qa n c) 29 (0, 0)) := blk_alloc w _
  generalize (w.alloc (.cells (parr u qa n c) 29)) = w0 at c0 b0 ⊢
  refine ⟨_, get_arr b0 0 _ rfl, _, get_arr b0 1 _ rfl, _, get_arr b0 2 _ rfl, _, _, _, get_arr b0 3 _ rfl, _, _, _, get_arr b0 4 _ rfl, ?_⟩
  refine Calls.then (Text_ok w0 (hL.chg c0).2 (hu.keep c0) (hq.keep c0) hn) ?_
  rintro v w1 ⟨o, ho, rfl, c1⟩
  refine ⟨_, rfl, _, _, rfl, _, rfl, _, _, rfl, _, rfl, rfl, ?_⟩
  have c01 := c0.trans c1
  rcases id ho with ⟨hR, hlen, rfl⟩ | ⟨_, _, rfl⟩ | ⟨_, rfl⟩
  rotate_left
  · rw [if_pos (by decide), if_pos (by show (ByteArray.toList (bs []) == ByteArray.toList (bs [])) = true; simp)]
    exact wake2 hL c01
  · rw [if_pos (by decide), if_pos (by show (ByteArray.toList (bs []) == ByteArray.toList (bs [])) = true; simp)]
    exact wake2 hL c01
  rw [if_neg (by show ¬ (((0 : Int) != 0) = true); decide)]
  have hback := back_is hR (nn_of _ _ _ hu) (nn_q hq) hlen
  refine Calls.then (Policy_is (hL.chg c01).1 hback) ?_
  rintro v w2 ⟨c2, u2, q2, k2, rfl, hu2, hq2, hl2⟩
  rw [bsQ_bare] at hq2
  refine ⟨_, rfl, _, _, rfl, _, rfl, _, _, rfl, _, rfl, _, _, rfl, _, rfl, _, _, rfl, _, rfl, _, _, rfl, _, _, _, rfl, _, _, rfl, _, _, _, rfl, rfl, _, _, rfl, rfl, ?_⟩
  refine (put4 (w := w2) (vs := vs5 u2 q2 (qs.map fun q => (nmL q, bareT q.2)).length k2) (cs := zs5) (blk_alloc w2 _) (chg_alloc w2 _ _) (Nat.le_refl _) rfl (by simp [oneC]) fun w3 b3 c3 _ z3 => ?_ : setsW _ _ _ _ _)
  have p3 := ((c1.trans c2).trans c3).blk b0 fun x => x
  have c03 := (c01.trans c2).trans c3
  refine ⟨_, get_arr1 p3 0 0 _ rfl, _, get_arr1 p3 0 1 _ rfl, _, get_arr1 p3 0 2 _ rfl, _, _, _, get_arr1 p3 0 3 _ rfl, ?_⟩
  have hsz : lsize (main :: preds qs) ≤ 4096 := hR.2.2.2.1
  refine Calls.then (bare_ok main u w3 (hu.keep c03) (by simp only [lsize] at hsz; omega)) ?_
  rintro v w4 ⟨u4, rfl, hu4, c4⟩
  refine ⟨_, rfl, _, _, rfl, _, rfl, _, _, rfl, _, rfl, _, _, rfl, _, rfl, _, _, rfl, _, _, _, rfl, rfl, ?_⟩
  refine (put4 (w := w4) (vs := vs5 u4 none 0 0) (cs := zs5) (blk_alloc w4 _) (chg_alloc w4 _ _) (Nat.le_refl _) rfl (by simp [oneC]) fun w5 b5 c5 _ z5 => ?_ : setsW _ _ _ _ _)
  rw [size_alloc] at z5
  have p5 := (c4.trans c5).blk p3 fun x => x
  have c05 := (c03.trans c4).trans c5
  have hg5 : w.heap.size < w4.heap.size := by
    have := c4.size
    have := lt_of_blk p3
    omega
  have h24 : w2.heap.size < w4.heap.size := by
    have := c4.size
    have := lt_of_blk b3
    omega
  refine ⟨_, _, _, get_arr p5 4 _ rfl, fun s w6 => ∃ j : Nat, s = (j : Int) ∧ j ≤ n ∧ QSt w5 w6 w4.heap.size u4 qs j, fun s _ => n - s.toNat, ⟨0, ⟨rfl, trivial⟩, 0, rfl, by omega, Chg.refl _ _, [], none, 0, b5, own_nil' _ _ _ _, .nil⟩, ?_⟩
  rintro s w6 ⟨j, rfl, hj, h6⟩ _
  obtain ⟨us, a, k, hb6, ho6, hv6⟩ := id h6.b
  have c06 : Chg NoS w w6 := c05.trans2 h6.hc fun k hk e => by have : k = w4.heap.size := e; omega
  have hz6 := h6.hc.size
  by_cases hlt : (j : Int) < n
  · rw [if_pos (by simpa using hlt)]
    have hjk : j < qs.length := by omega
    obtain ⟨A, q, hA, q0, q1, q3, q4, q5, hqv⟩ := (hq.keep c06).cells (List.getElem?_eq_getElem hjk)
    refine ⟨by omega, by omega, ?_⟩
    rw [hA, wSome_some]
    refine ⟨_, q0, _, q1, _, q3, _, q4, _, _, _, q5, ?_⟩
    refine (put4 (w := w6) (vs := [.string qs[j].1, .int .i8 q.op, .int .i8 q.f, .int .u64 q.n, .slice q.b q.m q.c]) (cs := [.string { data := #[] }, .int .i8 0, .int .i8 0, .int .u64 0, .slice none 0 0]) (blk_alloc w6 _) (chg_alloc w6 _ _) (Nat.le_refl _) rfl (by simp [oneC]) fun w10 b10 c10 _ z10 => ?_ : setsW _ _ _ _ _)
    rw [size_alloc] at z10
    have cd := c10.trans (chg_drew w10 NoS)
    have bd : w10.drew.heap[w6.heap.size]? = some (.cells #[.string qs[j].1, .int .i8 q.op, .int .i8 q.f, .int .u64 q.n, .slice q.b q.m q.c] 41 (0, 0)) := (chg_drew w10 NoS).blk b10 fun x => x
    have zd : w10.drew.heap.size = w6.heap.size + 1 := z10
    generalize w10.drew = w11 at cd bd zd ⊢
    have hBk := cd.blk hb6 fun x => x
    refine ⟨NoS, fun x => x, _, _, _, get_arr hBk 4 _ rfl, fun x => x, _, get_arr bd 0 _ rfl, fun x => x, _, get_arr1 bd 1 0 _ rfl, _, get_arr1 bd 1 1 _ rfl, _, get_arr1 bd 1 2 _ rfl, _, _, _, get_arr1 bd 1 3 _ rfl, ?_⟩
    have hle : tsize qs[j].2 ≤ lsize (preds qs) := tsize_le (List.mem_map.2 ⟨_, List.getElem_mem hjk, rfl⟩)
    refine Calls.then (bare_ok qs[j].2 q w11 (hqv.keep cd) (by simp only [lsize] at hsz; omega)) ?_
    rintro r w7 ⟨x, rfl, hx, c7⟩
    refine ⟨_, rfl, _, _, rfl, _, rfl, _, _, rfl, _, rfl, _, _, rfl, _, rfl, _, _, rfl, _, _, _, rfl, rfl, kept_of_ c7, kept_of_ (c7.trans (chg_alloc w7 _ _)), ?_⟩
    have c8 := chg_alloc w7 (.cells #[.string qs[j].1, .int .i8 x.op, .int .i8 x.f, .int .u64 x.n, .slice x.b x.m x.c] 41) NoS
    have b8 := blk_alloc w7 (.cells #[.string qs[j].1, .int .i8 x.op, .int .i8 x.f, .int .u64 x.n, .slice x.b x.m x.c] 41)
    have z8 := size_alloc w7 (.cells #[.string qs[j].1, .int .i8 x.op, .int .i8 x.f, .int .u64 x.n, .slice x.b x.m x.c] 41)
    generalize w7.alloc (.cells #[.string qs[j].1, .int .i8 x.op, .int .i8 x.f, .int .u64 x.n, .slice x.b x.m x.c] 41) = w8 at c8 b8 z8 ⊢
    have c68 := (cd.trans c7).trans c8
    have ho8 := own_of_chg ho6 c68 fun _ _ x => x
    have hv8 := hv6.keep (T := fun i => w4.heap.size + 1 ≤ i ∧ i < w6.heap.size ∧ (Value.slice a j k).ownBlock ≠ some i) c68 (fun _ _ x => x) fun _ x => x
    have hx8 := hx.keep (T := fun i => w11.heap.size ≤ i ∧ i < w7.heap.size) c8 (fun _ _ x => x) fun _ x => x
    have hz7 := c7.size
    have hread : Reads w8 (some ⟨w7.heap.size, 0, none⟩) (flatQ [(qs[j].1, x)]) := by
      rw [flat_q]
      exact reads_lit b8
    have hR32 := hR.1
    refine queries_append (base := w4.heap.size + 1) (n := j) (m := 1) (us := [(qs[j].1, x)]) (vs := us) ho8 rfl hread (fun e => by cases e) (by omega) (by omega) fun a' c'' w9 ho9 c9 hb9 => ⟨_, _, _, rfl, ?_⟩
    have hown : ∀ i, (Value.slice a j k).ownBlock = some i → w4.heap.size + 1 ≤ i ∧ i < w6.heap.size := fun i hi => own_ge ho6 hi
    have hB9 := c9.blk (c68.blk hb6 fun x => x) (fun e => by have := hown _ e; omega)
    refine setP hB9 (by show 4 < 5; omega) rfl fun w12 b12 c12 z12 => ?_
    refine ⟨((j + 1 : Nat) : Int), ⟨by rw [i64w _ (by omega) (by omega)]; rfl, trivial⟩, ⟨j + 1, rfl, by omega, ?_, us ++ [(qs[j].1, x)], a', c'', ?_, ?_, ?_⟩, by simp; omega⟩
    · exact ((h6.hc.trans (c68.mono fun _ _ x => x.elim)).trans2 c9 fun i hi e => by have := hown i e; omega).trans c12
    · exact b12
    · exact own_of_chg ho9 c12 fun i hi e => by
        have : i = w4.heap.size := e
        have := (own_ge ho9 hi).1
        omega
    · rw [List.take_add_one, List.getElem?_eq_getElem hjk, List.map_append]
      have hz9 := c9.size
      have call : Chg (fun i => (Value.slice a j k).ownBlock = some i ∨ i = w4.heap.size) w8 w12 := (c9.mono fun i _ e => .inl e).trans (c12.mono fun i _ e => .inr e)
      refine QO.append (hv8.keep call (fun i hi e => ?_) fun i hi => ⟨hi.1, by omega, fun e => ?_⟩) (.cons (hx8.keep call (fun i hi e => ?_) fun i hi => ⟨by omega, by omega, fun e => ?_⟩) .nil)
      · rcases e with e | e
        · exact hi.2.2 e
        · omega
      · rcases e with e | e
        · have := hown _ e
          omega
        · omega
      · rcases hb9 i e with e | e
        · have := hown _ e
          omega
        · omega
      · rcases hb9 i e with e | e
        · exact hi.2.2 e
        · omega
  · rw [if_neg (by simpa using hlt)]
    have hjm : j = n := by omega
    refine ⟨.inl rfl, ?_⟩
    rw [if_pos (by rfl)]
    have c26 : Chg NoS w2 w6 := ((c3.trans c4).trans c5).trans2 h6.hc fun k hk e => by have : k = w4.heap.size := e; omega
    have b6 : w6.heap[w2.heap.size]? = some (.cells (vs5 u2 q2 (qs.map fun q => (nmL q, bareT q.2)).length k2).toArray 29 (0, 0)) := h6.hc.blk ((c4.trans c5).blk b3 fun x => x) fun e => by have : w2.heap.size = w4.heap.size := e; omega
    refine ⟨_, get_blk b6 0 _ rfl, _, get_blk b6 1 _ rfl, _, get_blk b6 2 _ rfl, _, _, _, get_blk b6 3 _ rfl, _, _, _, get_blk b6 4 _ rfl, _, get_arr hb6 0 _ rfl, _, get_arr hb6 1 _ rfl, _, get_arr hb6 2 _ rfl, _, _, _, get_arr hb6 3 _ rfl, _, _, _, get_arr hb6 4 _ rfl, ?_⟩
    rw [List.take_of_length_le (by omega)] at hv6
    have hu6 := (hu4.keep (T := fun i => i < w4.heap.size) (c5.trans2 (T := OnlyB w4.heap.size) (S := NoS) h6.hc fun i hi e => by have : i = w4.heap.size := e; omega) (fun _ _ x => x) fun i hi => hi.2).is
    refine Calls.then (Policies_ok (va := u2) (vb := u4) (ma := bareT main) (mb := bareT main) (qa := qs.map bareQ) (qb := qs.map bareQ) (hu2.keep c26) hu6 (hq2.keep c26) (hv6.at (own_reads' ho6)) (by simp) (by simp; omega) (by have := hR.1; simp; omega)) ?_
    rintro v w8 ⟨bb, rfl, hbb, c8⟩
    obtain rfl : bb = true := hbb.2 ⟨rfl, rfl⟩
    refine ⟨true, rfl, ?_⟩
    rw [if_pos rfl]
    exact wake2 hL (c06.trans c8)
theorem ShowBack_walk (u0 : V4) (qa0 : Option Addr) (qn0 qc0 : Nat) (main0 : Tm) (qs0 : List Qu) (w : World) (i0 : PolIn w u0 qa0 qn0 qc0 main0 qs0) (hL : Libs w) :
    Calls Tryz.prog 4 #[.agg (parr u0 qa0 qn0 qc0)] w (endW (fun v w' => v = .bool true ∧ Chg NoS w w') (fun _ _ => False)) :=
  ShowBack_w w u0 qa0 qn0 qc0 main0 qs0 i0.main i0.row i0.len hL
end Go.Proofs.YtpolbdakhfcilaaGreatDoor.B
