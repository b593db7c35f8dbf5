/-
  crc: CrcTells.
-/
import Derived.Test.YtabejhhomlcgcaaCrcF
set_option linter.unusedVariables false
set_option linter.unusedSimpArgs false
namespace Go.Proofs.Ytabejhhomlcgcaa.B
open Go Go.Proofs Go.Proofs.YtabejhhomlcgcaaEng Go.Proofs.YtabejhhomlcgcaaCrc

/-- the four last -/
theorem last4 {bs : List UInt8} (h : 4 ≤ bs.length) : ∃ ds x y z u, bs = ds ++ [x, y, z, u] ∧ ds.length + 4 = bs.length := by
  have h1 : (bs.drop (bs.length - 4)).length = 4 := by rw [List.length_drop]; omega
  have h2 := List.take_append_drop (bs.length - 4) bs
  match hd : bs.drop (bs.length - 4), h1 with
  | [x, y, z, u], _ =>
    rw [hd] at h2
    exact ⟨_, x, y, z, u, h2.symm, by rw [List.length_take]; omega⟩

/-- An answer of two parts: a row of bytes, an error; the same on both sides. -/
def Ans (w w' : World) (bs : List UInt8) (e : Int) (v : Value) : Prop := ∃ a n c, v = .tuple #[.slice a n c, .int .i64 e] ∧ n = bs.length ∧ Reads w' a (vals bs) ∧ Chg NoS w w'
theorem Ans.nil {w w' : World} {e : Int} (h : Chg NoS w w') : Ans w w' [] e (.tuple #[.slice none 0 0, .int .i64 e]) := ⟨none, 0, 0, rfl, rfl, (fun j u hu => by simp [vals] at hu), h⟩
theorem Ans.out {w w' : World} {bs : List UInt8} {e : Int} {a : Option Addr} {n c : Nat} (h : Out w w' a n c bs) (hc : Chg NoS w w') : Ans w w' bs e (.tuple #[.slice a n c, .int .i64 e]) :=
  ⟨a, n, c, rfl, (own_reads_v h).2.1.symm, (own_reads_v h).1, hc⟩

def sealS (bs : List UInt8) : List UInt8 × Int := if 16384 < bs.length then ([], 3) else (sealed bs, 0)
theorem Seal_ans {w : World} {a : Option Addr} {n c : Nat} {bs : List UInt8} (hn : bs.length = n) (hr : Reads w a (vals bs)) (h0 : a = none → n = 0) :
    Calls Try.prog 7 #[.slice a n c] w (endW (fun v w' => Ans w w' (sealS bs).1 (sealS bs).2 v) (fun _ _ => False)) := by
  by_cases h : 16384 < bs.length
  · refine Calls.then (Seal_long (by omega)) ?_
    rintro v w' ⟨rfl, rfl⟩
    unfold sealS; rw [if_pos h]; exact Ans.nil (Chg.refl _ _)
  · refine Calls.then (Seal_ok hn hr h0 (by omega)) ?_
    rintro v w' ⟨a', c', rfl, ho, hc⟩
    unfold sealS; rw [if_neg h]; exact Ans.out ho hc
theorem rSeal_ans {w : World} {a : Option Addr} {n c : Nat} {bs : List UInt8} (hn : bs.length = n) (hr : Reads w a (vals bs)) (h0 : a = none → n = 0) :
    Calls Try.prog 8 #[.slice a n c] w (endW (fun v w' => Ans w w' (sealS bs).1 (sealS bs).2 v) (fun _ _ => False)) := by
  by_cases h : 16384 < bs.length
  · refine Calls.then (rSeal_long (by omega)) ?_
    rintro v w' ⟨rfl, rfl⟩
    unfold sealS; rw [if_pos h]; exact Ans.nil (Chg.refl _ _)
  · refine Calls.then (rSeal_ok hn hr h0 (by omega)) ?_
    rintro v w' ⟨a', c', rfl, ho, hc⟩
    unfold sealS; rw [if_neg h]; exact Ans.out ho hc
def OpenS (bs : List UInt8) (r : List UInt8 × Int) : Prop := (bs.length < 4 ∧ r = ([], 51)) ∨ ∃ ds x y z u, bs = ds ++ [x, y, z, u] ∧ r = if opens ds x y z u = true then (ds, 0) else ([], 50)
theorem openEnd_ans {w w' : World} {n : Nat} {ds : List UInt8} {x y z u : UInt8} {v : Value} (h : OpenEnd w n ds x y z u v w') : Ans w w' (if opens ds x y z u = true then (ds, (0 : Int)) else ([], 50)).1 (if opens ds x y z u = true then (ds, (0 : Int)) else ([], 50)).2 v := by
  unfold OpenEnd at h
  split at h
  · rename_i ho
    rw [if_pos ho]
    obtain ⟨a', c', rfl, ho, hc⟩ := h
    exact Ans.out ho hc
  · rename_i ho
    rw [if_neg ho]
    obtain ⟨rfl, hc⟩ := h
    exact Ans.nil hc
theorem opens_ans (bs : List UInt8) (hb : bs.length ≤ 1048576) : ∃ r : List UInt8 × Int, ∀ (w : World) (a : Option Addr) (n c : Nat), bs.length = n → n ≤ c → Reads w a (vals bs) →
    Calls Try.prog 9 #[.slice a n c] w (endW (fun v w' => Ans w w' r.1 r.2 v) (fun _ _ => False)) ∧ Calls Try.prog 10 #[.slice a n c] w (endW (fun v w' => Ans w w' r.1 r.2 v) (fun _ _ => False)) := by
  by_cases h : bs.length < 4
  · refine ⟨([], 51), fun w a n c hn hc hr => ⟨Calls.then (Open_short (by omega)) ?_, Calls.then (rOpen_short (by omega)) ?_⟩⟩ <;>
    · rintro v w' ⟨rfl, rfl⟩
      exact Ans.nil (Chg.refl _ _)
  · obtain ⟨ds, x, y, z, u, he, hl⟩ := last4 (bs := bs) (by omega)
    refine ⟨if opens ds x y z u = true then (ds, 0) else ([], 50), fun w a n c hn hc hr => ?_⟩
    rw [he] at hr
    exact ⟨Calls.then (Open_ok (by omega) hc hr (by omega) (fun _ => by omega)) (fun v w' h => openEnd_ans h), Calls.then (rOpen_ok (by omega) hc hr (by omega) (fun _ => by omega)) (fun v w' h => openEnd_ans h)⟩

theorem CrcTells_ok {w : World} {a : Option Addr} {n c : Nat} {bs : List UInt8} (hn : bs.length = n) (hc : n ≤ c) (hb : n ≤ 1048576) (hr : Reads w a (vals bs)) (h0 : a = none → n = 0) :
    Calls Try.prog 3 #[.slice a n c] w (endW (fun v w' => v = .bool true ∧ Chg NoS w w') (fun _ _ => False)) := by
  obtain ⟨r, ho⟩ := opens_ans bs (by omega)
  refine F3_calls a n c ?_
  delta F3
  refine Calls.then (Seal_ans hn hr h0) ?_
  rintro v w1 ⟨a1, n1, c1, rfl, hn1, hr1, hc1⟩
  refine ⟨[_, _], rfl, _, _, rfl, a1, n1, c1, rfl, _, _, rfl, _, rfl, rfl, ?_⟩
  refine Calls.then (rSeal_ans hn (hr.chg hc1 (fun _ _ x => x)) h0) ?_
  rintro v w2 ⟨a2, n2, c2, rfl, hn2, hr2, hc2⟩
  refine ⟨[_, _], rfl, _, _, rfl, a2, n2, c2, rfl, _, _, rfl, _, rfl, rfl, ?_⟩
  have hc02 := hc1.trans hc2
  refine Calls.then (ho w2 a n c hn hc (hr.chg hc02 (fun _ _ x => x))).1 ?_
  rintro v w3 ⟨a3, n3, c3, rfl, hn3, hr3, hc3⟩
  refine ⟨[_, _], rfl, _, _, rfl, a3, n3, c3, rfl, _, _, rfl, _, rfl, rfl, ?_⟩
  have hc03 := hc02.trans hc3
  refine Calls.then (ho w3 a n c hn hc (hr.chg hc03 (fun _ _ x => x))).2 ?_
  rintro v w4 ⟨a4, n4, c4, rfl, hn4, hr4, hc4⟩
  refine ⟨[_, _], rfl, _, _, rfl, a4, n4, c4, rfl, _, _, rfl, _, rfl, rfl, ?_⟩
  have hc04 := hc03.trans hc4
  refine Calls.then (Sum_ok hn (hr.chg hc04 (fun _ _ x => x)) (by omega)) ?_
  rintro v w5 ⟨rfl, hc5⟩
  refine ⟨_, rfl, ?_⟩
  have hc05 := hc04.trans hc5
  refine Calls.then (rSum_ok hn (hr.chg hc05 (fun _ _ x => x)) (by omega)) ?_
  rintro v w6 ⟨rfl, rfl⟩
  refine ⟨_, rfl, ?_⟩
  rw [if_pos (by simp), if_pos (by simp)]
  have k : ∀ {wa : World}, Chg NoS wa w6 → Chg NoS wa w6 := fun h => h
  refine bytes_str bT Try.underlying9 hn1.symm (hr1.chg (((hc2.trans hc3).trans hc4).trans hc5) (fun _ _ x => x)) ⟨_, rfl, ?_⟩
  refine bytes_str bT Try.underlying9 hn2.symm (hr2.chg ((hc3.trans hc4).trans hc5) (fun _ _ x => x)) ⟨_, rfl, ?_⟩
  rw [if_pos (by simp), if_pos (by simp)]
  refine bytes_str bT Try.underlying9 hn3.symm (hr3.chg (hc4.trans hc5) (fun _ _ x => x)) ⟨_, rfl, ?_⟩
  refine bytes_str bT Try.underlying9 hn4.symm (hr4.chg hc5 (fun _ _ x => x)) ⟨_, rfl, ?_⟩
  rw [if_pos (by simp)]
  refine Calls.then (Wakes_ok _) ?_
  rintro v w7 ⟨rfl, hc7⟩
  exact ⟨_, rfl, rfl, hc05.trans hc7⟩
theorem CrcTells_walk (a0 : Option Addr) (len0 cap0 : Nat) (w : World) (i0 : Is 1048576 Try.prog w 12 22 [.slice a0 len0 cap0]) :
    Calls Try.prog 3 #[.slice a0 len0 cap0] w (endW (fun v w' => v = .bool true ∧ Chg NoS w w') (fun _ _ => False)) := by
  obtain ⟨bs, h1, h2, h3, h4, h5⟩ := bytes_of_is i0
  exact CrcTells_ok h1 h2 (by omega) h5 h4
end Go.Proofs.Ytabejhhomlcgcaa.B
