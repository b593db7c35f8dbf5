/-
  Policies: gathered, by the program.
-/
import Derived.Test.YtbpckcmejkcciaaPolO
set_option linter.unusedVariables false
set_option linter.unusedSimpArgs false
namespace Go.Proofs.Ytbpckcmejkcciaa.B
open Go Go.Proofs Go.Proofs.YtbpckcmejkcciaaEng

theorem gather_append (op : Int) : ∀ (a b : List Tm), gatherS op (a ++ b) = gatherS op a ++ gatherS op b
  | [], b => rfl
  | k :: a, b => by simp only [List.cons_append, gatherS, gather_append op a b, List.append_assoc]
theorem gather_take {op : Int} {ks : List Tm} {j : Nat} (hj : j < ks.length) : gatherS op (ks.take (j + 1)) = gatherS op (ks.take j) ++ (if opS ks[j] = op then kidsS ks[j] else [ks[j]]) := by
  rw [take_snoc hj, gather_append]
  simp only [gatherS, List.append_nil]
theorem gather_len {op : Int} {ks : List Tm} (j : Nat) : (gatherS op (ks.take j)).length ≤ lsize ks := by
  have h1 := lsize_len (gatherS op (ks.take j))
  have h2 := (gather_size op (ks.take j)).1
  have h3 := lsize_take_le ks j
  omega
/-- the four cells of one of a row -/
theorem reads4 {w : World} {a : Option Addr} {us : List V4} (h : Reads w a (flat us)) {j : Nat} {u : V4} (hj : us[j]? = some u) : ∃ A, a = some A ∧ w.cell? (addK (addK A (j * 4)) 0) = some (.int .i8 u.op) ∧ w.cell? (addK (addK A (j * 4)) 1) = some (.int .i8 u.f) ∧ w.cell? (addK (addK A (j * 4)) 2) = some (.int .u64 u.n) ∧ w.cell? (addK (addK A (j * 4)) 3) = some (.slice u.b u.m u.c) := by
  have g : ∀ i v, u.cells[i]? = some v → i < 4 → ∃ A, a = some A ∧ w.cell? (addK A (j * 4 + i)) = some v := fun i v hv hi => h _ _ (by rw [flat_get us j i u hj hi]; exact hv)
  obtain ⟨A, rfl, g0⟩ := g 0 _ rfl (by omega)
  obtain ⟨A1, e1, g1⟩ := g 1 _ rfl (by omega)
  obtain ⟨A2, e2, g2⟩ := g 2 _ rfl (by omega)
  obtain ⟨A3, e3, g3⟩ := g 3 _ rfl (by omega)
  cases e1
  cases e2
  cases e3
  exact ⟨A, rfl, by rw [addK_addK]; exact g0, by rw [addK_addK]; exact g1, by rw [addK_addK]; exact g2, by rw [addK_addK]; exact g3⟩
theorem reads_none {w : World} {a : Option Addr} {us : List V4} (h : Reads w a (flat us)) {m : Nat} (hm : us.length = m) (ha : a = none) : m = 0 := by
  match us, h with
  | [], _ => simpa using hm.symm
  | v :: us, h =>
    obtain ⟨A, e, _⟩ := h 0 (.int .i8 v.op) rfl
    rw [ha] at e
    cases e
theorem reads_keep {w w' : World} {a : Option Addr} {cs : List Value} (h : Reads w a cs) (hc : Chg NoS w w') : Reads w' a cs := h.chg hc (fun _ _ x => x)
/-- an append to a row of the call's own, in a call that changes nothing that was there -/
theorem chg_own {w0 w w' : World} {base n c : Nat} {a : Option Addr} {xs : List Value} {e : TypeId} {size : Nat} (hc : Chg NoS w0 w) (hb : w0.heap.size ≤ base) (ho : w.ownsRow base e size (.slice a n c) n xs) (h : Chg (fun k => (Value.slice a n c).ownBlock = some k) w w') : Chg NoS w0 w' :=
  hc.trans2 h fun k hk e => by have := (own_lt' ho e).2; omega
theorem own_none {w : World} {base n c : Nat} {a : Option Addr} {xs : List Value} {e : TypeId} {size : Nat} (ho : w.ownsRow base e size (.slice a n c) n xs) {w' : World} (hc : Chg NoS w w') : w'.ownsRow base e size (.slice a n c) n xs := own_of_chg ho hc (fun _ _ x => x)
/-- what comes back is a new row of these terms -/
def RetR (w : World) (S : Nat → Prop) (ts : List Tm) (r : Value) (w' : World) : Prop := ∃ a c us, r = .slice a ts.length c ∧ w'.ownsRow w.heap.size 26 4 (.slice a ts.length c) ts.length (flat us) ∧ VO w' S us ts ∧ Chg NoS w w'
theorem Gathered_ok {w : World} {op : Int} {a : Option Addr} {m c : Nat} {us : List V4} {ks : List Tm} {S : Nat → Prop} (hv : VO w S us ks) (hr : Reads w a (flat us)) (hm : m = ks.length) (hsz : lsize ks ≤ 1000000) :
    Calls Try.prog 51 #[.int .i8 op, .slice a m c] w (endW (RetR w S (gatherS op ks)) (fun _ _ => False)) := by
  refine F51_calls op a m c ?_
  delta F51
  have hlk := lsize_len ks
  have hul := hv.len
  refine ⟨fun s w1 => ∃ (j : Nat) (us' : List V4), s.2.2.2 = j ∧ j ≤ m ∧ s.2.1 = (gatherS op (ks.take j)).length ∧ w1.ownsRow w.heap.size 26 4 (.slice s.1 s.2.1 s.2.2.1) s.2.1 (flat us') ∧ VO w S us' (gatherS op (ks.take j)) ∧ Chg NoS w w1, fun s _ => (m - s.2.2.2).toNat,
    ⟨(none, 0, 0, 0), ⟨rfl, rfl, trivial⟩, 0, [], rfl, by omega, rfl, own_nil' _ _ _ _, .nil, Chg.refl _ _⟩, ?_⟩
  rintro ⟨la, ln, lc, i⟩ w1 ⟨j, us', hi, hj, hln, ho, hV, hc1⟩ _
  dsimp only at hi hln ho ⊢
  subst hi
  by_cases hlt : (j : Int) < m
  · rw [if_pos (by simpa using hlt)]
    have hjk : j < ks.length := by omega
    obtain ⟨u, hu, hown⟩ := hv.get j _ (List.getElem?_eq_getElem hjk)
    obtain ⟨A, rfl, q0, q1, q2, q3⟩ := reads4 (reads_keep hr hc1) hu
    refine ⟨by omega, by omega, _, q0, _, q1, _, q2, _, _, _, q3, ?_⟩
    refine set4 u (mine_alloc (Chg.refl NoS w1) _ _) rfl ?_
    intro w2 hM2 _
    have hc2 := hM2.2.1
    refine ⟨_, (mine_cell hM2 0).trans rfl, ?_⟩
    obtain ⟨hop, hum, us2, hV2, hr2⟩ := hown.kids
    have hgt := gather_take (op := op) hjk
    have hgl := gather_len (op := op) (ks := ks) (j + 1)
    have hgl0 := gather_len (op := op) (ks := ks) j
    have hbase := hc1.size
    have hb2 := hc2.size
    have hlen := hV.len
    by_cases he : u.op = op
    · rw [if_pos (by simp [he])]
      have he' : opS ks[j] = op := by rw [← hop]; exact he
      rw [if_pos he'] at hgt
      rw [hgt, List.length_append] at hgl
      refine ⟨_, _, _, (mine_cell hM2 3).trans rfl, ?_⟩
      refine terms_append (base := w.heap.size) (us := us2) (own_none ho hc2) (by rw [hV2.len, hum]) (reads_keep hr2 (hc1.trans hc2)) (reads_none hr2 (by rw [hV2.len, hum])) (by omega) (by omega) ?_
      intro a3 c3 w3 ho3 hc3 _
      refine ⟨_, _, _, rfl, (a3, ln + u.m, c3, (j : Int) + 1), ⟨rfl, by rw [i64w _ (by omega) (by omega)], trivial⟩, ⟨j + 1, us' ++ us2, by dsimp only; omega, by omega, ?_, ho3, ?_, chg_own (hc1.trans hc2) (Nat.le_refl _) (own_none ho hc2) hc3⟩, by dsimp only; omega⟩
      · dsimp only
        rw [hgt, List.length_append, hln, hum]
      · rw [hgt]
        exact hV.append hV2
    · rw [if_neg (by simp [he])]
      have he' : opS ks[j] ≠ op := by rw [← hop]; exact he
      rw [if_neg he'] at hgt
      rw [hgt, List.length_append] at hgl
      refine get4 hM2 ?_
      have hb3 := blk_alloc w2 (.cells u.arr 26)
      have hc3 := chg_alloc w2 (.cells u.arr 26) NoS
      generalize w2.alloc (.cells u.arr 26) = w3 at *
      have hs3 := hc3.size
      refine terms_append (base := w.heap.size) (us := [u]) (own_none ho (hc2.trans hc3)) rfl (reads_lit hb3) (fun e => by cases e) (by omega) (by omega) ?_
      intro a4 c4 w4 ho4 hc4 _
      refine ⟨_, _, _, rfl, (a4, ln + 1, c4, (j : Int) + 1), ⟨rfl, by rw [i64w _ (by omega) (by omega)], trivial⟩, ⟨j + 1, us' ++ [u], by dsimp only; omega, by omega, ?_, ho4, ?_, chg_own (hc1.trans (hc2.trans hc3)) (Nat.le_refl _) (own_none ho (hc2.trans hc3)) hc4⟩, by dsimp only; omega⟩
      · dsimp only
        rw [hgt, List.length_append, hln]
        rfl
      · rw [hgt]
        exact hV.append (.cons hown .nil)
  · rw [if_neg (by simpa using hlt)]
    rw [List.take_of_length_le (by omega)] at hln hV
    subst hln
    exact ⟨la, lc, us', rfl, ho, hV.keepN hc1, hc1⟩
end Go.Proofs.Ytbpckcmejkcciaa.B
