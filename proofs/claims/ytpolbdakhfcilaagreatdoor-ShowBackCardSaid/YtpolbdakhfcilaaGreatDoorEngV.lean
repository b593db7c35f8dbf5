/-
  Strings as lists of bytes.
-/
import Derived.Test.YtpolbdakhfcilaaGreatDoorEngR
import Derived.Laws.Strings2
import Derived.Laws.Runes
import Derived.Lib.Strings
namespace Go.Proofs.YtpolbdakhfcilaaGreatDoorEng
open Go
set_option linter.unusedSimpArgs false
set_option linter.unusedVariables false
variable {P : Program}

abbrev bs (l : List UInt8) : ByteArray := ⟨l.toArray⟩
theorem bs_data (s : ByteArray) : bs s.data.toList = s := by cases s; rfl
theorem bs_app (a b : List UInt8) : bs a ++ bs b = bs (a ++ b) := by
  apply ByteArray.ext
  simp [bs]
theorem bs_size (l : List UInt8) : (bs l).size = l.length := by simp [bs, ByteArray.size]
theorem bs_toList (l : List UInt8) : ByteArray.toList (bs l) = l := by rw [ByteArray.toList_eq]
theorem bs_inj {a b : List UInt8} (h : bs a = bs b) : a = b := by
  have := congrArg (fun s : ByteArray => s.data.toList) h
  simpa [bs] using this
theorem bs_extract (l : List UInt8) (a b : Nat) : (bs l).extract a b = bs ((l.drop a).take (b - a)) := ByteArray.extract_mk l a b
theorem byteAt_bs (l : List UInt8) (i : Nat) : byteAt (bs l) (i : Int) = ((l.getD i 0).toNat : Int) := by
  simp [byteAt, bs, List.getD]
theorem bs_beq (a b : List UInt8) : (ByteArray.toList (bs a) == ByteArray.toList (bs b)) = decide (a = b) := by
  rw [bs_toList, bs_toList]
  by_cases h : a = b
  · subst h; simp
  · simp [h]
theorem str_beq (a b : ByteArray) : (ByteArray.toList a == ByteArray.toList b) = decide (a = b) := by
  rw [ByteArray.toList_eq, ByteArray.toList_eq]
  by_cases h : a = b
  · subst h; simp
  · have h2 : ¬ a.data.toList = b.data.toList := fun e => h (by cases a; cases b; simp at e; subst e; rfl)
    rw [decide_eq_false h]
    exact beq_eq_false_iff_ne.2 h2
theorem str_size (s : ByteArray) : s.size = s.data.toList.length := by rw [Array.length_toList]; rfl
/-- string(rune(c)) of a small letter -/
theorem conv_rune {src dst : TypeId} {k : IntKind} {n : Nat} {w : World} {K : Value → World → Prop} {E : PanW} (hs : (P.underlying src).isSome = true) (hd : P.underlying dst = some .string) (hn : n < 128) (h : K (.string (bs [UInt8.ofNat n])) w) :
    runV P (convert src dst (.int k (n : Int))) w K E := by
  have e : Utf8.encode (n : Int) = bs [UInt8.ofNat n] := by
    have hv : Utf8.valid (n : Int) = true := by simp [Utf8.valid]; omega
    unfold Utf8.encode
    simp only [hv, if_true, Int.toNat_natCast, hn]
  unfold runV
  rw [run_convert_int_string (P := P) w src dst k n hs hd, e]
  exact h
theorem below_chg {B : Nat} {w w' : World} (h : RowKit.Below B w w') : Chg (fun k => B ≤ k) w w' := ⟨h.os, h.tape, h.output, h.size, fun k _ hk => h.block k (by omega)⟩
theorem below_new {w w' : World} (h : RowKit.Below w.heap.size w w') : Chg NoS w w' := (below_chg h).mono fun k hk h => by omega
end Go.Proofs.YtpolbdakhfcilaaGreatDoorEng
