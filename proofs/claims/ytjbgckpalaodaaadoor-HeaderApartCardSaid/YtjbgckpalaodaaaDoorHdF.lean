/-
  header: Text, the program's.
-/
import Derived.Test.YtjbgckpalaodaaaDoorHdE
set_option maxRecDepth 100000
set_option linter.unusedVariables false
set_option linter.unusedSimpArgs false
namespace Go.Proofs.YtjbgckpalaodaaaDoor.B
open Go Go.Proofs Go.Proofs.YtjbgckpalaodaaaDoorEng Go.RowKit

def kindPre : List UInt8 := [107, 105, 110, 100, 61, 48, 120]
def part (h : HN) (f : Nat) : List UInt8 := if f = 2 then kindPre ++ hexs (h 2) 4 else nam f ++ [61] ++ numTxt f (h f)
def has (h : HN) (f : Nat) : Bool := decide (f = 2 ∨ h f ≠ 0)
def parts (h : HN) (k : Nat) : List (List UInt8) := ((List.range k).filter (has h)).map (part h)
def text (h : HN) : List UInt8 := if okH h then Lib.join (parts h 11) [32] else []
theorem parts_succ (h : HN) (k : Nat) : parts h (k + 1) = if has h k then parts h k ++ [part h k] else parts h k := by
  unfold parts
  rw [List.range_succ, List.filter_append, List.map_append]
  by_cases hk : has h k = true
  · rw [if_pos hk]; simp [hk]
  · rw [if_neg hk]; simp [hk]
theorem parts_length (h : HN) (k : Nat) : (parts h k).length ≤ k := by
  unfold parts
  rw [List.length_map]
  have := List.length_filter_le (has h) (List.range k)
  simpa using this
theorem numTxt_len {f n : Nat} (hn : n < 18446744073709551616) : (numTxt f n).length ≤ 84 := by
  unfold numTxt
  split
  · have := join_le ((List.range 6).map (macPart n)) [58] 2 (fun l hl => by simp at hl; obtain ⟨i, _, rfl⟩ := hl; rw [mac_len]; omega)
    simp at this ⊢
    omega
  · split
    · have := join_le ((List.range 4).map (ipPart n)) [46] 20 (fun l hl => by simp at hl; obtain ⟨i, _, rfl⟩ := hl; exact ip_len n i)
      simp at this ⊢
      omega
    · have := dec_le n hn; omega
theorem part_len {h : HN} {f : Nat} (hf : f < 11) (hn : h f < 18446744073709551616) : 0 < (part h f).length ∧ (part h f).length ≤ 91 := by
  unfold part
  split
  · simp [kindPre, hexs_length]
  · have h1 := nam_len f hf
    have h2 := numTxt_len (f := f) hn
    simp only [List.length_append, List.length_cons, List.length_nil]
    omega
theorem parts_mem {h : HN} (hn : ∀ f, f < 11 → h f < 18446744073709551616) {k : Nat} (hk : k ≤ 11) : ∀ l ∈ parts h k, 0 < l.length ∧ l.length ≤ 91 := by
  intro l hl
  unfold parts at hl
  obtain ⟨f, hf, rfl⟩ := List.mem_map.1 hl
  have := (List.mem_filter.1 hf).1
  rw [List.mem_range] at this
  exact part_len (by omega) (hn f (by omega))
theorem text_len {h : HN} (hn : ∀ f, f < 11 → h f < 18446744073709551616) {k : Nat} (hk : k ≤ 11) : (Lib.join (parts h k) [32]).length ≤ 1012 := by
  have h1 := join_le (parts h k) [32] 91 fun l hl => (parts_mem hn hk l hl).2
  have h2 := parts_length h k
  have h3 : (parts h k).length * ([32].length + 91) ≤ 11 * 92 := Nat.mul_le_mul (by omega) (by simp)
  omega
theorem max64 : IntKind.max .i64 = 9223372036854775807 := rfl
theorem lt64 {h : HN} (ho : okH h) : ∀ f, f < 11 → h f < 18446744073709551616 := fun f hf => Nat.lt_of_lt_of_le (wid_lt48 ho.1 hf) (by omega)

theorem Text_ok (w : World) (h : HN) (hT : Tab w) : Calls Tryd.prog 10 #[.agg (hvs h)] w (endW (fun v w' => v = .string (bs (text h)) ∧ Chg NoS w w') (fun _ _ => False)) := by
  refine F10_calls _ _ _ _ _ _ _ _ _ _ _ ?_
  delta F10
  have hb := blk_alloc w (.cells (hvs h) 24)
  have hca := chg_alloc w (.cells (hvs h) 24) NoS
  have cell : ∀ {w' : World}, Chg NoS (w.alloc (.cells (hvs h) 24)) w' → ∀ k, k < 11 → w'.cell? (addK ⟨w.heap.size, 0, none⟩ k) = some (.int .u64 (h k)) := fun hc k hk => by
    rw [addK_lit, Nat.zero_add, cell_blk (hc.blk hb fun x => x)]
    exact hvs_at h k hk
  have c0 := cell (Chg.refl NoS _)
  refine ⟨_, c0 0 (by omega), _, c0 1 (by omega), _, c0 2 (by omega), _, c0 3 (by omega), _, c0 4 (by omega), _, c0 5 (by omega), _, c0 6 (by omega), _, c0 7 (by omega), _, c0 8 (by omega), _, c0 9 (by omega), _, c0 10 (by omega), ?_⟩
  refine Calls.then (Check_ok (w.alloc (.cells (hvs h) 24)) h) ?_
  rintro v w1 ⟨rfl, hc1⟩
  refine ⟨_, rfl, ?_⟩
  by_cases ho : okH h
  · rw [okH_yes ho, if_neg (by decide)]
    have c1 := cell hc1
    refine ⟨_, c1 0 (by omega), _, c1 1 (by omega), _, c1 2 (by omega), _, c1 3 (by omega), _, c1 4 (by omega), _, c1 5 (by omega), _, c1 6 (by omega), _, c1 7 (by omega), _, c1 8 (by omega), _, c1 9 (by omega), _, c1 10 (by omega), ?_⟩
    have hl64 := lt64 ho
    have hT1 : Tab w1 := hT.chg (hca.trans hc1)
    have htx : text h = Lib.join (parts h 11) [32] := by unfold text; rw [if_pos ho]
    rw [htx]
    refine ⟨fun s w2 => ∃ k n : Nat, s.2.2.2 = (k : Int) ∧ k ≤ 11 ∧ Chg (fun k => w1.heap.size ≤ k) w1 w2 ∧ w2.ownsRow w1.heap.size 9 1 (.slice s.1 s.2.1 s.2.2.1) n (strs (parts h k)), fun s _ => (11 - s.2.2.2).toNat,
      ⟨(none, 0, 0, 0), ⟨rfl, rfl, trivial⟩, 0, 0, rfl, by omega, Chg.refl _ _, own_nil' _ _ _ _⟩, ?_⟩
    rintro ⟨a, m, c, z⟩ w2 ⟨k, n, hz, hk, hc2, hown⟩ _
    dsimp only at hz hown ⊢
    subst hz
    have hnl : n = (parts h k).length := by have := hown.1; rw [strs_length] at this; omega
    obtain ⟨a', c', e, _, _⟩ := own_form hown
    injection e with e1 e2 e3
    subst e2
    clear e1 e3
    have hT2 : Tab w2 := hT1.chg (chg_new hc2)
    by_cases hlt : k < 11
    · rw [if_pos (by simp; omega)]
      refine ⟨by omega, by omega, by simp; omega, (h k : Int), ?_, ?_⟩
      · rw [Int.toNat_natCast]
        have := hvs_get h k hlt
        rw [show (#[Value.int IntKind.u64 (h 0), Value.int IntKind.u64 (h 1), Value.int IntKind.u64 (h 2), Value.int IntKind.u64 (h 3), Value.int IntKind.u64 (h 4), Value.int IntKind.u64 (h 5), Value.int IntKind.u64 (h 6), Value.int IntKind.u64 (h 7), Value.int IntKind.u64 (h 8), Value.int IntKind.u64 (h 9), Value.int IntKind.u64 (h 10)] : Array Value).toList[k]? = some (.int .u64 (h k)) from this]
      have step : ∀ (a2 : Option Addr) (c2 n2 : Nat) (w3 : World), Chg (fun k => w1.heap.size ≤ k) w1 w3 → w3.ownsRow w1.heap.size 9 1 (.slice a2 n2 c2) n2 (strs (parts h (k + 1))) →
          ∃ s' : Option Addr × Nat × Nat × Int, (Value.slice s'.1 s'.2.1 s'.2.2.1 = .slice a2 n2 c2 ∧ Value.int .i64 s'.2.2.2 = .int .i64 (IntKind.wrap .i64 ((k : Int) + 1)) ∧ True) ∧
            (∃ k n : Nat, s'.2.2.2 = (k : Int) ∧ k ≤ 11 ∧ Chg (fun k => w1.heap.size ≤ k) w1 w3 ∧ w3.ownsRow w1.heap.size 9 1 (.slice s'.1 s'.2.1 s'.2.2.1) n (strs (parts h k))) ∧ (11 - s'.2.2.2).toNat < (11 - (k : Int)).toNat := fun a2 c2 n2 w3 hc3 ho3 =>
        ⟨(a2, n2, c2, ((k + 1 : Nat) : Int)), ⟨rfl, by rw [i64w _ (by omega) (by omega)]; rfl, trivial⟩, ⟨k + 1, n2, rfl, by omega, hc3, ho3⟩, by show (11 - ((k + 1 : Nat) : Int)).toNat < _; omega⟩
      have hpl := parts_length h k
      by_cases hk2 : k = 2
      · subst hk2
        rw [if_pos (by decide)]
        refine Calls.then (hex_ok w2 (h 2) 4 (hl64 2 (by omega)) (by omega)) ?_
        rintro v w3 ⟨rfl, hc3⟩
        refine ⟨_, rfl, by rw [max64, bs_size, hexs_length]; omega, ?_⟩
        rw [show ({ data := #[107, 105, 110, 100, 61, 48, 120] } : ByteArray) = bs kindPre from rfl, bs_app]
        refine strs_push (own_of_chg hown hc3 fun _ _ x => x) (by omega) (by have := hc2.size; have := hc3.size; omega) ?_
        intro a2 c2 w4 ho4 hc4
        refine ⟨_, _, _, rfl, step a2 c2 (m + 1) w4 ((chg_base hc2 hc3).trans hc4) ?_⟩
        rw [parts_succ, if_pos (by simp [has])]
        exact ho4
      · rw [if_neg (by simp; omega)]
        by_cases h0 : h k = 0
        · rw [if_neg (by simp [h0])]
          refine step a c m w2 hc2 ?_
          rw [parts_succ, if_neg (by simp [has, hk2, h0])]
          exact hown
        · rw [if_pos (by simp [h0])]
          refine Calls.then (Names_ok w2.drew) ?_
          rintro v w3 ⟨rfl, hc3⟩
          refine ⟨_, rfl, ?_⟩
          have hc3' : Chg NoS w2 w3 := (chg_drew w2 NoS).trans hc3
          refine ⟨_, _, rfl, _, rfl, _, _, rfl, _, rfl, _, _, rfl, _, rfl, _, _, rfl, _, rfl, _, _, rfl, _, rfl, _, _, rfl, _, rfl, _, _, rfl, _, rfl, _, _, rfl, _, rfl, _, _, rfl, _, rfl, _, _, rfl, _, rfl, _, _, rfl, _, rfl, rfl, ?_⟩
          refine ⟨by omega, by omega, by simp; omega, bs (nam k), ?_, ?_⟩
          · rw [Int.toNat_natCast]
            exact congrArg (Option.rec undef fun v => v) (nam_get k hlt)
          have hnl := nam_len k hlt
          have hul := numTxt_len (f := k) (hl64 k hlt)
          refine ⟨by rw [max64, bs_size]; omega, ?_⟩
          rw [IntWalk.i8_in _ (by omega)]
          refine Calls.then (Number_ok w3 k (h k) hlt (hl64 k hlt) (hT2.chg hc3')) ?_
          rintro v w4 ⟨rfl, hc4⟩
          have hc34 := hc3'.trans hc4
          refine ⟨_, rfl, ?_⟩
          rw [show ({ data := #[61] } : ByteArray) = bs [61] from rfl, bs_app, bs_app]
          refine ⟨by rw [max64, bs_size, bs_size]; simp only [List.length_append, List.length_cons, List.length_nil]; omega, ?_⟩
          refine strs_push (own_of_chg hown hc34 fun _ _ x => x) (by omega) (by have := hc2.size; have := hc34.size; omega) ?_
          intro a2 c2 w5 ho5 hc5
          refine ⟨_, _, _, rfl, step a2 c2 (m + 1) w5 ((chg_base hc2 hc34).trans hc5) ?_⟩
          rw [parts_succ, if_pos (by simp [has, h0])]
          have : part h k = nam k ++ [61] ++ numTxt k (h k) := by unfold part; rw [if_neg hk2]
          rw [this]
          exact ho5
    · rw [if_neg (by simp; omega)]
      have : k = 11 := by omega
      subst this
      have hpl := parts_length h 11
      refine Calls.then (Join_own (sep := [32]) hown (by omega) (by have := text_len hl64 (k := 11) (by omega); omega)) ?_
      rintro v w3 ⟨rfl, hc3⟩
      exact ⟨_, rfl, rfl, (hca.trans hc1).trans (chg_new (chg_base hc2 hc3))⟩
  · rw [okH_no ho, if_pos (by decide)]
    refine ⟨?_, hca.trans hc1⟩
    unfold text
    rw [if_neg ho]
end Go.Proofs.YtjbgckpalaodaaaDoor.B
