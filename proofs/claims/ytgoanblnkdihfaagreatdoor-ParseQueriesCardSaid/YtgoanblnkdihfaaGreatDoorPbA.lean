/-
  parse: queries: what the walk of ParseQueries needs.
-/
import Derived.Test.YtgoanblnkdihfaaGreatDoorPaZ
import Derived.Test.YtgoanblnkdihfaaGreatDoorPaXh
import Derived.Test.YtgoanblnkdihfaaGreatDoorBK
import Derived.Test.YtgoanblnkdihfaaGreatDoorEngO
set_option maxRecDepth 100000
set_option linter.unusedVariables false
set_option linter.unusedSimpArgs false
namespace Go.Proofs.YtgoanblnkdihfaaGreatDoor.B
open Go Go.Proofs Go.Proofs.YtgoanblnkdihfaaGreatDoorEng Go.RowKit

/-- a row of texts: each place within its length holds one -/
def Strs (w : World) (a : Option Addr) (len : Nat) : Prop := ∀ i, i < len → ∃ A l, a = some A ∧ l.length ≤ 9223372036854775807 ∧ w.cell? (addK A (i * 1)) = some (.string (bs l))
theorem strs_of {w : World} {n : Nat} {t e : TypeId} {a : Option Addr} {len cap : Nat} (ht : Tryz.prog.underlying t = some (.slice e)) (he : Tryz.prog.underlying e = some .string) (hce : Tryz.prog.cellsOf e = 1) (h : Is maxLen Tryz.prog w (n + 2) t [.slice a len cap]) : Strs w a len ∧ len ≤ 9223372036854775807 := by
  obtain ⟨a', len', cap', h1, h2, h3, h4, h5⟩ := h.slice ht
  injection h1 with h1
  injection h1 with e1 e2 e3
  subst e1; subst e2; subst e3
  refine ⟨fun i hi => ?_, by have : maxLen ≤ 9223372036854775807 := by decide
                             omega⟩
  cases a with
  | none => have := h4 rfl; omega
  | some A =>
    obtain ⟨es, he1, he2⟩ := h5 A rfl i (by omega)
    obtain ⟨s, rfl, hs⟩ := he2.str he
    rw [hce] at he1
    have h6 := (World.cells?_some he1).2.2 0 (by omega)
    refine ⟨A, s.data.toList, rfl, ?_, ?_⟩
    · rw [← str_size]
      have : maxLen ≤ 9223372036854775807 := by decide
      omega
    · rw [bs_data]
      have e : (A.add (i * 1)).add 0 = addK A (i * 1) := by simp [Addr.add, addK]
      rw [e] at h6
      exact h6
theorem Strs.keep {w w' : World} {a : Option Addr} {len : Nat} (h : Strs w a len) (hc : Chg NoS w w') : Strs w' a len := fun i hi => by
  obtain ⟨A, l, h1, h2, h3⟩ := h i hi
  exact ⟨A, l, h1, h2, hc.sameOld.cell h3⟩
theorem tailQ_snoc (l : List Pc) (x : Pc) : tailQ (l ++ [x]) = tailQ l ++ 10 :: segQ x.nm x.pr := by
  induction l with
  | nil => simp [tailQ]
  | cons y l ih => simp [tailQ, ih]
theorem textQ_snoc (a : List UInt8) (l : List Pc) (x : Pc) : textQ a (l ++ [x]) = textQ a l ++ 10 :: segQ x.nm x.pr := by
  unfold textQ
  rw [tailQ_snoc, List.append_assoc]
theorem probe_bs (nm pr : List UInt8) : ({ data := #[(105 : UInt8), (100 : UInt8), (32 : UInt8), (99 : UInt8), (111 : UInt8), (117 : UInt8), (110 : UInt8), (116 : UInt8), (32 : UInt8)] } : ByteArray) ++ bs nm ++ { data := #[(32 : UInt8), (61 : UInt8), (32 : UInt8)] } ++ bs pr = bs (probeQ nm pr) := by
  have e1 : (({ data := #[(105 : UInt8), (100 : UInt8), (32 : UInt8), (99 : UInt8), (111 : UInt8), (117 : UInt8), (110 : UInt8), (116 : UInt8), (32 : UInt8)] } : ByteArray) ++ bs nm) = bs ([105, 100, 32, 99, 111, 117, 110, 116, 32] ++ nm) := bs_app _ nm
  have e2 : (bs ([105, 100, 32, 99, 111, 117, 110, 116, 32] ++ nm) ++ { data := #[(32 : UInt8), (61 : UInt8), (32 : UInt8)] }) = bs ([105, 100, 32, 99, 111, 117, 110, 116, 32] ++ nm ++ [32, 61, 32]) := bs_app _ [32, 61, 32]
  rw [e1, e2, bs_app]
  exact congrArg bs (by simp [probeQ, segQ])
theorem text_bs (a : List UInt8) (l : List Pc) (x : Pc) : bs (textQ a l) ++ { data := #[(10 : UInt8), (99 : UInt8), (111 : UInt8), (117 : UInt8), (110 : UInt8), (116 : UInt8), (32 : UInt8)] } ++ bs x.nm ++ { data := #[(32 : UInt8), (61 : UInt8), (32 : UInt8)] } ++ bs x.pr = bs (textQ a (l ++ [x])) := by
  have e1 : (bs (textQ a l) ++ { data := #[(10 : UInt8), (99 : UInt8), (111 : UInt8), (117 : UInt8), (110 : UInt8), (116 : UInt8), (32 : UInt8)] }) = bs (textQ a l ++ [10, 99, 111, 117, 110, 116, 32]) := bs_app _ [10, 99, 111, 117, 110, 116, 32]
  have e2 : (bs (textQ a l ++ [10, 99, 111, 117, 110, 116, 32] ++ x.nm) ++ { data := #[(32 : UInt8), (61 : UInt8), (32 : UInt8)] }) = bs (textQ a l ++ [10, 99, 111, 117, 110, 116, 32] ++ x.nm ++ [32, 61, 32]) := bs_app _ [32, 61, 32]
  rw [e1, bs_app (textQ a l ++ [10, 99, 111, 117, 110, 116, 32]) x.nm, e2, bs_app, textQ_snoc]
  exact congrArg bs (by simp [segQ])
/-- a probe's answer with one query: its name's cell, and the piece if the name is the same -/
theorem probe_ok {o : Fo} {w : World} {u : V4} {qa : Option Addr} {n : Nat} {e : Value} {nm pr : List UInt8} (ho : PolP (probeQ nm pr) o) (hi : Inf o w u qa n e) (h1 : (!isNilI e) = false) (h2 : ((n : Int) != 1) = false) :
    ∃ A q, qa = some A ∧ w.cell? (addK (addK A 0) 0) = some (.string (bs q)) ∧ (q = nm → ∃ x : Pc, x.ok ∧ x.nm = nm ∧ x.pr = pr) := by
  cases o with
  | fault _ _ _ => obtain ⟨z, rfl, _⟩ := hi; simp [isNilI] at h1
  | ok m qs =>
    obtain ⟨_, _, hq, hn, _⟩ := hi
    have : qs.length = 1 := by
      have : n = 1 := by simp at h2; omega
      omega
    match qs, this with
    | [(q, t)], _ =>
      obtain ⟨A, hA, hc, _⟩ := hq 0 (bs q, t) rfl
      refine ⟨A, q, hA, hc, ?_⟩
      rintro rfl
      obtain ⟨rs, hp⟩ := piece_of ho
      exact ⟨⟨q, pr, t, rs⟩, hp, rfl, rfl⟩
end Go.Proofs.YtgoanblnkdihfaaGreatDoor.B
