/-
  line: what a datagram says is what was put into it; what it does to the other end.
-/
import Derived.Test.YtooebmpjmcmkoaaLinP
set_option maxRecDepth 100000
set_option linter.unusedVariables false
set_option linter.unusedSimpArgs false
namespace Go.Proofs.Ytooebmpjmcmkoaa.B
open Go Go.Proofs Go.Proofs.YtooebmpjmcmkoaaEng

theorem by8_nat (x : Nat) : (by8 x).toNat = x % 256 := by simp [by8]
theorem un_be4 {x : Nat} (h : x < 4294967296) : un (be4 x) = x := by
  simp only [un, be4, List.foldl, by8_nat]
  omega
theorem un_be2 {x : Nat} (h : x < 65536) : un (be2 x) = x := by
  simp only [un, be2, List.foldl, by8_nat]
  omega
theorem msgs_body : ∀ (l : List (List UInt8)), (∀ m ∈ l, m.length ≤ 8192) → msgs l.length (body l) = some l
  | [], h => by simp [msgs, body]
  | m :: l, h => by
    have hm := h m List.mem_cons_self
    have e : body (m :: l) = be2 m.length ++ (m ++ body l) := by simp [body]
    rw [e, List.length_cons]
    unfold msgs
    have h2 : (be2 m.length ++ (m ++ body l)).take 2 = be2 m.length := rfl
    have h3 : (be2 m.length ++ (m ++ body l)).drop 2 = m ++ body l := rfl
    rw [h2, h3, un_be2 (by omega), if_neg (by simp [be2]), if_neg (by omega), if_neg (by simp), List.drop_left, List.take_left, msgs_body l fun x hx => h x (List.mem_cons_of_mem _ hx)]
    rfl
theorem parse_payload {m : Lm} (hm : m.wf) : parse m.payload = some ⟨m.ep, m.come, m.got, m.sent.take m.out⟩ := by
  have hf := fit_le m.sent 32 0 (Nat.zero_le _)
  change _ ≤ m.out ∧ m.out ≤ _ ∧ m.out ≤ _ at hf
  have e0 : m.payload = be4 m.ep ++ (be4 m.come ++ (be4 m.got ++ (be2 m.out ++ body (m.sent.take m.out)))) := by simp [Lm.payload]
  have h1 : (m.payload.drop 12).take 2 = be2 m.out := by rw [e0]; rfl
  have h2 : m.payload.drop 14 = body (m.sent.take m.out) := by rw [e0]; rfl
  have h3 : m.payload.take 4 = be4 m.ep := by rw [e0]; rfl
  have h4 : (m.payload.drop 4).take 4 = be4 m.come := by rw [e0]; rfl
  have h5 : (m.payload.drop 8).take 4 = be4 m.got := by rw [e0]; rfl
  have hl : (m.sent.take m.out).length = m.out := by rw [List.length_take]; omega
  have hb := msgs_body (m.sent.take m.out) fun x hx => hm.rows x (List.mem_of_mem_take hx)
  rw [hl] at hb
  unfold parse
  rw [h1, h2, h3, h4, h5, un_be2 (by omega), if_neg (by omega), hb, un_be4 hm.ep, un_be4 hm.come, un_be4 hm.got]
  rfl
theorem take_payload {m : Lm} (hm : m.wf) (n : Lm) : n.take (S.sealed m.payload) = (0, n.hear ⟨m.ep, m.come, m.got, m.sent.take m.out⟩) := by
  rw [take_sealed _ _ (by rw [(payload_len _).1]; omega), parse_payload hm]
/-- rows that begin where an end stands come one after the other -/
theorem feed_on : ∀ (ls : List (List UInt8)) (first i : Nat) (m : Lm), first + i = m.come → m.come + ls.length < 4294967296 → feed first i ls m = { m with come := m.come + ls.length, fresh := m.fresh ++ ls }
  | [], first, i, m, h, hl => by simp [feed]
  | l :: ls, first, i, m, h, hl => by
    unfold feed
    rw [if_pos h]
    have hc : (m.add l).come = m.come + 1 := by simp only [Lm.add]; simp only [List.length_cons] at hl; omega
    rw [feed_on ls first (i + 1) (m.add l) (by omega) (by simp only [List.length_cons] at hl; omega)]
    have hfr : (m.add l).fresh = m.fresh ++ [l] := rfl
    rw [hc, hfr]
    simp only [List.length_cons, Lm.add, List.append_assoc, List.singleton_append]
    congr 1
    omega
/-- all rows go into one datagram -/
theorem fit_all (l : List (List UInt8)) : ∀ (f i : Nat), l.length ≤ i + f → i ≤ l.length → 14 + (body l).length ≤ 16384 → fitFrom l f i = l.length
  | 0, i, h1, h2, h3 => by simp only [fitFrom]; omega
  | f + 1, i, h1, h2, h3 => by
    unfold fitFrom
    by_cases hi : i < l.length
    · rw [dif_pos hi]
      have hb : (body (l.take (i + 1))).length ≤ (body l).length := by
        have := body_mono l (show i + 1 ≤ l.length by omega)
        rwa [List.take_length] at this
      have e : (body (l.take (i + 1))).length = (body (l.take i)).length + 2 + l[i].length := by
        rw [← List.take_append_getElem hi, body_snoc]; simp [be2]; omega
      rw [if_pos (by omega)]
      exact fit_all l f (i + 1) (by omega) (by omega) h3
    · rw [dif_neg hi]; omega

/-! ### messages that are put in -/
def sends : List (List UInt8) → Lm → Lm
  | [], m => m
  | l :: ls, m => sends ls (m.send l).2
theorem sends_all : ∀ (ls : List (List UInt8)) (m : Lm), (∀ l ∈ ls, l.length ≤ 8192) → m.sent.length + ls.length ≤ 4096 → sends ls m = { m with sent := m.sent ++ ls }
  | [], m, h, hl => by simp [sends]
  | l :: ls, m, h, hl => by
    simp only [List.length_cons] at hl
    have h1 := h l List.mem_cons_self
    have e : (m.send l).2 = { m with sent := m.sent ++ [l] } := by
      unfold Lm.send
      rw [if_neg (by omega), if_neg (by omega)]
    unfold sends
    rw [e, sends_all ls _ (fun x hx => h x (List.mem_cons_of_mem _ hx)) (by simp; omega)]
    simp
end Go.Proofs.Ytooebmpjmcmkoaa.B
