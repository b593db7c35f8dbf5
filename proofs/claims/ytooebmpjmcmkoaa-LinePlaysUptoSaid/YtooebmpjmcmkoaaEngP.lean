/-
  The bound of the second form, as the shape of what came in wants it.
-/
import Derived.Test.YtooebmpjmcmkoaaEngO
import Derived.Test.YtooebmpjmcmkoaaRows
namespace Go.Proofs.YtooebmpjmcmkoaaEng
open Go Go.Proofs.Ytooebmpjmcmkoaa
theorem bulk_one {H : Type} (d : DataW H) : 1 ≤ Rows.uptoBulk d := by
  cases d with
  | lit l => cases l <;> simp [Rows.uptoBulk]
  | nil => simp [Rows.uptoBulk]
  | ptr d => simp [Rows.uptoBulk]
  | slice elems spare => simp [Rows.uptoBulk]
  | agg parts => simp [Rows.uptoBulk]
  | iface t d => simp [Rows.uptoBulk]
  | map entries => simp [Rows.uptoBulk]
  | held h => simp [Rows.uptoBulk]
theorem bulk_part {H : Type} {d : DataW H} : ∀ {l : List (DataW H)}, d ∈ l → Rows.uptoBulk d ≤ Rows.uptoBulkAll l
  | x :: r, h => by
    simp only [Rows.uptoBulkAll]
    rcases List.mem_cons.1 h with e | e
    · subst e; omega
    · have := bulk_part e; omega
theorem bulk_length {H : Type} : ∀ (l : List (DataW H)), l.length ≤ Rows.uptoBulkAll l
  | [] => by simp
  | x :: r => by
    have h1 := bulk_one x
    have h2 := bulk_length r
    simp only [Rows.uptoBulkAll, List.length_cons]
    omega
theorem meas_upto (H : Type) (B : Nat) : Meas H (fun d => Rows.uptoBulk d ≤ B) B where
  slice es sp h _ := by
    have h1 := bulk_length es
    have h2 := bulk_length sp
    simp only [Rows.uptoBulk] at h
    omega
  sub es sp d h hd := by
    simp only [Rows.uptoBulk] at h
    rcases List.mem_append.1 hd with hd | hd
    · have := bulk_part hd; show Rows.uptoBulk d ≤ B; omega
    · have := bulk_part hd; show Rows.uptoBulk d ≤ B; omega
  agg ps d h hd := by
    simp only [Rows.uptoBulk] at h
    have := bulk_part hd
    show Rows.uptoBulk d ≤ B
    omega
  ptr d h := by
    simp only [Rows.uptoBulk] at h
    show Rows.uptoBulk d ≤ B
    omega
  str bytes h _ := by
    simp only [Rows.uptoBulk] at h
    omega
end Go.Proofs.YtooebmpjmcmkoaaEng
