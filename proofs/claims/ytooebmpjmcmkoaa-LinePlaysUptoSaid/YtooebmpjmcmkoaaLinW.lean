/-
  line: the plain law of two ends between which anything may happen to datagrams (for LineOrder, LineComes).
-/
import Derived.Test.YtooebmpjmcmkoaaLinQ
set_option maxRecDepth 100000
set_option linter.unusedVariables false
set_option linter.unusedSimpArgs false
namespace Go.Proofs.Ytooebmpjmcmkoaa.B
open Go Go.Proofs Go.Proofs.YtooebmpjmcmkoaaEng

/-- what the loop of Take leaves alone, and what it adds: rows of P, in their places -/
theorem feed_inv {P x : List (List UInt8)} (hP : P.length < 4294967296) : ∀ (ls : List (List UInt8)) (first i : Nat) (m : Lm),
    (∀ (j : Nat) l, ls[j]? = some l → P[first + i + j]? = some l) → x ++ m.fresh = P.take m.come → m.come ≤ P.length →
    x ++ (feed first i ls m).fresh = P.take (feed first i ls m).come ∧ (feed first i ls m).come ≤ P.length ∧ m.come ≤ (feed first i ls m).come ∧
      (feed first i ls m).sent = m.sent ∧ (feed first i ls m).got = m.got ∧ (feed first i ls m).ep = m.ep
  | [], first, i, m, h, hx, hc => ⟨hx, hc, Nat.le_refl _, rfl, rfl, rfl⟩
  | l :: ls, first, i, m, h, hx, hc => by
    unfold feed
    have hrest : ∀ (j : Nat) l', ls[j]? = some l' → P[first + (i + 1) + j]? = some l' := fun j l' hj => by
      have := h (j + 1) l' (by simpa using hj)
      rw [show first + (i + 1) + j = first + i + (j + 1) from by omega]
      exact this
    by_cases he : first + i = m.come
    · rw [if_pos he]
      have hl : P[m.come]? = some l := by
        have := h 0 l rfl
        rw [Nat.add_zero, he] at this
        exact this
      have hlt : m.come < P.length := (List.getElem?_eq_some_iff.1 hl).1
      have hc1 : (m.add l).come = m.come + 1 := by simp only [Lm.add]; omega
      have hx1 : x ++ (m.add l).fresh = P.take (m.add l).come := by
        show x ++ (m.fresh ++ [l]) = _
        rw [hc1, ← List.append_assoc, hx, List.take_add_one, hl]
        rfl
      obtain ⟨g1, g2, g3, g4, g5, g6⟩ := feed_inv hP ls first (i + 1) (m.add l) hrest hx1 (by rw [hc1]; omega)
      exact ⟨g1, g2, by rw [hc1] at g3; omega, g4, g5, g6⟩
    · rw [if_neg he]
      exact feed_inv hP ls first (i + 1) m hrest hx hc

/-- An end m that has P to send, of whose rows r have come to the other; Q is the other's, of which m has come so many, told as far as x. -/
structure Side (E : Nat) (P Q x : List (List UInt8)) (m : Lm) (r : Nat) : Prop where
  ep : m.ep = E
  sent : m.sent = P.drop m.got
  got : m.got ≤ r
  r : r ≤ P.length
  come : m.come ≤ Q.length
  told : x ++ m.fresh = Q.take m.come
/-- a datagram of an end that has P to send and to which r rows have come by now -/
structure Sent (E : Nat) (P : List (List UInt8)) (d : Dgm) (r : Nat) : Prop where
  ep : d.ep = E
  rows : ∀ (j : Nat) l, d.ls[j]? = some l → P[d.first + j]? = some l
  come : d.come ≤ r
theorem Side.tick {E : Nat} {P Q x : List (List UInt8)} {m : Lm} {r : Nat} (h : Side E P Q x m r) : Sent E P ⟨m.ep, m.come, m.got, m.sent.take m.out⟩ m.come where
  ep := h.ep
  rows := fun j l hj => by
    dsimp only at hj ⊢
    rw [List.getElem?_take] at hj
    split at hj
    · rw [h.sent, List.getElem?_drop] at hj
      exact hj
    · cases hj
  come := Nat.le_refl _
/-- a datagram comes: 'm' hears one of the other end, to which of P so many have come as it says at most -/
theorem Side.hear {E : Nat} {P Q x : List (List UInt8)} {m : Lm} {r : Nat} {d : Dgm} (h : Side E P Q x m r) (hd : Sent E Q d r) (hP : P.length < 4294967296) (hQ : Q.length < 4294967296) :
    Side E P Q x (m.hear d) r ∧ m.come ≤ (m.hear d).come := by
  unfold Lm.hear
  have hep := h.ep
  have hdep := hd.ep
  rw [if_neg (by omega)]
  have hh : m.heard d = m := by unfold Lm.heard; rw [if_neg (by omega)]
  rw [hh]
  have hack : Side E P Q x (m.acks d.come) r ∧ (m.acks d.come).come = m.come := by
    unfold Lm.acks
    split
    · rename_i hc
      refine ⟨⟨h.ep, ?_, hd.come, h.r, h.come, h.told⟩, rfl⟩
      show m.sent.drop (d.come - m.got) = P.drop d.come
      rw [h.sent, List.drop_drop]
      congr 1
      omega
    · exact ⟨h, rfl⟩
  obtain ⟨h1, h2⟩ := hack
  obtain ⟨g1, g2, g3, g4, g5, g6⟩ := feed_inv (x := x) hQ d.ls d.first 0 (m.acks d.come) (fun j l hj => by simpa using hd.rows j l hj) h1.told h1.come
  exact ⟨⟨g6.trans h1.ep, by rw [g4, g5]; exact h1.sent, by rw [g5]; exact h1.got, h1.r, g2, g1⟩, by omega⟩
theorem Side.came {E : Nat} {P Q x : List (List UInt8)} {m : Lm} {r : Nat} (h : Side E P Q x m r) : Side E P Q (x ++ m.fresh) { m with fresh := [] } r :=
  ⟨h.ep, h.sent, h.got, h.r, h.come, by simpa using h.told⟩
theorem Side.more {E : Nat} {P Q x : List (List UInt8)} {m : Lm} {r r' : Nat} (h : Side E P Q x m r) (hr : r ≤ r') (hP : r' ≤ P.length) : Side E P Q x m r' := ⟨h.ep, h.sent, Nat.le_trans h.got hr, hP, h.come, h.told⟩
theorem Sent.more {E : Nat} {P : List (List UInt8)} {d : Dgm} {r r' : Nat} (h : Sent E P d r) (hr : r ≤ r') : Sent E P d r' := ⟨h.ep, h.rows, Nat.le_trans h.come hr⟩
end Go.Proofs.Ytooebmpjmcmkoaa.B
