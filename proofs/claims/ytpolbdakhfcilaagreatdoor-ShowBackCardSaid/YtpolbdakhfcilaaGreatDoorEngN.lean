/-
  Conversions of []byte, as the clean form of the walk meets them.
-/
import Derived.Test.YtpolbdakhfcilaaGreatDoorEngM
import Derived.Laws.BytesArg
import Derived.Lib.SlBytesConst
namespace Go.Proofs.YtpolbdakhfcilaaGreatDoorEng
open Go
set_option linter.unusedSimpArgs false
set_option linter.unusedVariables false
variable {P : Program}

theorem runV_of_ok {s : Sem Value} {w w' : World} {v : Value} {K : Value → World → Prop} {E : PanW} (h : s.run P w = .ok v w') (hk : K v w') : runV P s w K E := by
  unfold runV
  rw [h]
  exact hk
/-- '[]byte("..")' of a constant. -/
theorem conv_const {w : World} {t e : TypeId} {C : Array Value} {n c : Nat} {K : Value → World → Prop} {E : PanW} (ht : P.underlying t = some (.slice e)) (he : P.underlying e = some (.int .u8))
    (h : ∀ w', w'.heap[w.heap.size]? = some (.cells C e (C.size, C.size + 1)) → Reads w' (some ⟨w.heap.size, 0, none⟩) C.toList → Chg NoS w w' → w'.heap.size = w.heap.size + 1 → K (.slice (some ⟨w.heap.size, 0, none⟩) n c) w') :
    runV P (convert t t (.slice (some ⟨w.heap.size, 0, none⟩) n c)) (w.alloc (.cells C e)) K E := by
  refine runV_of_ok (Lib.run_convert_bytes_const w t e C n c ht he) (h _ (blk_alloc w _) ?_ (chg_alloc w _ NoS) (size_alloc w _))
  intro j u hu
  refine ⟨_, rfl, ?_⟩
  rw [addK_lit, cell_blk (blk_alloc w _), Nat.zero_add]
  simpa using hu
theorem strOfNums_bytes (bs : List UInt8) : strOfNums (bs.map fun x => (x.toNat : Int)) = ⟨bs.toArray⟩ := by
  unfold strOfNums
  congr 2
  rw [List.map_map]
  conv => rhs; rw [← List.map_id bs]
  apply List.map_congr_left
  intro x _
  simp
/-- 'string(b)' of a []byte. -/
theorem conv_str {w : World} {src dst e : TypeId} {a : Option Addr} {n c : Nat} {bs : List UInt8} {K : Value → World → Prop} {E : PanW} (hs : P.underlying src = some (.slice e)) (he : P.underlying e = some (.int .u8)) (hd : P.underlying dst = some .string)
    (hf : ∀ A, a = some A → A.spot = none) (hn : bs.length = n) (hr : Reads w a (bs.map fun x => .int .u8 x.toNat)) (h : K (.string ⟨bs.toArray⟩) w) : runV P (convert src dst (.slice a n c)) w K E := by
  cases a with
  | none =>
    have h0 : bs = [] := by
      cases bs with
      | nil => rfl
      | cons b l =>
        obtain ⟨A, hA, _⟩ := hr 0 _ (by simp; rfl)
        cases hA
    subst h0
    exact runV_of_ok (run_convert_bytes_nil (P := P) w src e hs he n c dst hd) h
  | some A =>
    obtain ⟨b, o, sp⟩ := A
    have e0 : sp = none := hf _ rfl
    subst e0
    refine runV_of_ok (run_convert_bytes_arg (P := P) w src e hs he b o n c (bs.map fun x => (x.toNat : Int)) (by simpa using hn) ?_ dst hd) (by rw [strOfNums_bytes]; exact h)
    intro i hi
    have hi' : i < bs.length := by omega
    obtain ⟨A, hA, hc⟩ := hr i (.int .u8 bs[i].toNat) (by simp [hi'])
    cases hA
    rw [addK_lit] at hc
    rw [hc]
    simp [List.getD, List.getElem?_eq_getElem hi']
end Go.Proofs.YtpolbdakhfcilaaGreatDoorEng
