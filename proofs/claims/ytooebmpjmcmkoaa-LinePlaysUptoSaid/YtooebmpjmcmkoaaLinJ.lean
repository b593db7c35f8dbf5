/-
  line: the document's read and split.
-/
import Derived.Test.YtooebmpjmcmkoaaLinI
set_option maxRecDepth 100000
set_option linter.unusedVariables false
set_option linter.unusedSimpArgs false
namespace Go.Proofs.Ytooebmpjmcmkoaa.B
open Go Go.Proofs Go.Proofs.YtooebmpjmcmkoaaEng

theorem rread_ok {w : World} {a : Option Addr} {n c at_ k : Nat} {bs : List UInt8} (hn : bs.length = n) (hr : Reads w a (vals bs)) (hk : at_ + k ≤ n) (hk4 : k ≤ 4) (hl : n ≤ 1099511627776) :
    Calls Try.prog 41 #[.slice a n c, .int .i64 at_, .int .i64 k] w (endW (fun v w' => v = .int .u32 (un ((bs.drop at_).take k) : Int) ∧ w' = w) (fun _ _ => False)) := by
  refine F41_calls _ _ _ _ _ ?_
  delta F41
  have hl2 : ((bs.drop at_).take k).length = k := by rw [List.length_take, List.length_drop]; omega
  refine ⟨fun s w' => w' = w ∧ ∃ i : Nat, s = ((un (((bs.drop at_).take k).take i) : Int), (i : Int)) ∧ i ≤ k, fun s _ => (k - s.2).toNat, ⟨(0, 0), ⟨rfl, rfl, trivial⟩, rfl, 0, rfl, by omega⟩, ?_⟩
  rintro s w1 ⟨rfl, i, rfl, hi⟩ _
  dsimp only
  by_cases hlt : i < k
  · rw [if_pos (by simp; omega)]
    obtain ⟨A, rfl, hcell⟩ := hr (at_ + i) _ (vals_get (by omega))
    have e1 : IntKind.wrap .i64 ((at_ : Int) + (i : Int)) = ((at_ + i : Nat) : Int) := by rw [i64w _ (by omega) (by omega)]; omega
    rw [e1]
    refine ⟨by omega, by omega, by omega, wSome_of rfl ⟨_, by rw [Int.toNat_natCast, Nat.mul_one]; exact hcell, ((un (((bs.drop at_).take k).take (i + 1)) : Int), ((i + 1 : Nat) : Int)), ⟨?_, ?_, trivial⟩, ⟨rfl, i + 1, rfl, by omega⟩, by dsimp only; omega⟩⟩
    · have e : ((bs.drop at_).take k).take (i + 1) = ((bs.drop at_).take k).take i ++ [bs[at_ + i]] := by
        have h : ((bs.drop at_).take k)[i]'(by omega) = bs[at_ + i] := by simp
        rw [← h, List.take_append_getElem (by omega)]
      rw [e, un_snoc, or8 (un_lt32 (by rw [List.length_take]; omega))]
    · rw [i64w _ (by omega) (by omega)]; rfl
  · rw [if_neg (by simp; omega)]
    have : i = k := by omega
    subst this
    rw [List.take_of_length_le (by omega)]
    exact ⟨rfl, rfl⟩

def SplitEnd (w : World) (X : Nat → Prop) (bs : List UInt8) (v : Value) (w' : World) : Prop := Chg NoS w w' ∧ ∃ a n c b, v = .tuple #[.slice a n c, .bool b] ∧
  match parse bs with
  | none => b = false
  | some d => b = true ∧ n = d.ls.length ∧ ∃ vs, OwnT w' 31 (.slice a n c) n vs ∧ BRows w' X vs d.ls ∧ ∀ k, tBlk (.slice a n c) k → w.heap.size ≤ k
theorem SplitEnd.bad {w w' : World} {X : Nat → Prop} {bs : List UInt8} {a : Option Addr} {n c : Nat} (hc : Chg NoS w w') (h : parse bs = none) : SplitEnd w X bs (.tuple #[.slice a n c, .bool false]) w' := by
  refine ⟨hc, a, n, c, false, rfl, ?_⟩
  rw [h]
theorem split_ok {w : World} {X : Nat → Prop} {a : Option Addr} {n c : Nat} {bs : List UInt8} (hrow : RowIn w X (.slice a n c) bs) (hX : ∀ k, X k → k < w.heap.size) (h14 : 14 ≤ bs.length) (hl : bs.length ≤ 1099511627776) :
    Calls Try.prog 40 #[.slice a n c] w (endW (SplitEnd w X bs) (fun _ _ => False)) := by
  obtain ⟨hr, hn, hnc, h0⟩ := RowIn.rd hrow
  have hrow0 := hrow
  obtain ⟨a', c', ee, _, _, _, hx⟩ := hrow0
  injection ee with ee1 ee2 ee3
  subst ee1 ee3
  refine F40_calls _ _ _ ?_
  delta F40
  refine Calls.then (rread_ok (at_ := 12) (k := 2) hn hr (by omega) (by omega) (by omega)) ?_
  rintro v w1 ⟨rfl, rfl⟩
  refine ⟨_, rfl, ?_⟩
  have hNlt : un ((bs.drop 12).take 2) < 65536 := by
    have := un_lt ((bs.drop 12).take 2)
    have hl2 : ((bs.drop 12).take 2).length = 2 := by rw [List.length_take, List.length_drop]; omega
    rw [hl2] at this
    omega
  generalize hN : un ((bs.drop 12).take 2) = N at hNlt ⊢
  rw [i64w (N : Int) (by omega) (by omega)]
  have hXn : ∀ k, w1.heap.size ≤ k → orX X (fun k => w1.heap.size ≤ k) k := fun k hk => .inr hk
  have hXo : ∀ k, k < w1.heap.size → orX X (fun k => w1.heap.size ≤ k) k → X k := fun k hk hx => hx.elim id fun h => by omega
  refine ⟨fun s w' => ∃ (k i c : Nat) (a : Option Addr) (done : List (List UInt8)) (vs : List Value), s = ((k : Int), a, i, c, (i : Int)) ∧ k ≤ bs.length ∧ i ≤ N ∧ done.length = i ∧ Chg NoS w1 w' ∧
      OwnT w' 31 (.slice a i c) i vs ∧ BRows w' (orX X (fun k => w1.heap.size ≤ k)) vs done ∧ (∀ k, tBlk (.slice a i c) k → w1.heap.size ≤ k) ∧ msgs N (bs.drop 14) = (msgs (N - i) (bs.drop k)).map (done ++ ·),
    fun s _ => (65536 - s.2.2.2.2).toNat, ⟨(14, none, 0, 0, 0), ⟨rfl, rfl, rfl, trivial⟩, 14, 0, 0, none, [], [], rfl, h14, by omega, rfl, Chg.refl _ _, OwnT.nil _ _, trivial, fun k hk => hk.elim, by simp⟩, ?_⟩
  rintro s w5 ⟨k, i, c5, a5, done, vs, rfl, hk, hi, hdl, hc5, ho5, hr5, hb5, hm5⟩ _
  dsimp only
  have hr5' : Reads w5 a (vals bs) := (RowIn.rd (hrow.chg hc5 fun k _ h => h.elim)).1
  by_cases hlt : i < N
  · rw [if_pos (by simp; omega)]
    obtain ⟨f, hf⟩ : ∃ f, N - i = f + 1 := ⟨N - i - 1, by omega⟩
    rw [hf] at hm5
    have hnone : msgs (f + 1) (bs.drop k) = none → parse bs = none := fun h => parse_bad (.inr (by rw [hN, hm5, h]; rfl))
    have hdk : (bs.drop k).length = bs.length - k := List.length_drop
    have e2 : IntKind.wrap .i64 ((k : Int) + 2) = ((k + 2 : Nat) : Int) := by rw [i64w _ (by omega) (by omega)]; omega
    simp only [e2]
    by_cases hs2 : bs.length < k + 2
    · rw [if_pos (by simp; omega)]
      exact SplitEnd.bad hc5 (hnone (msgs_bad (.inl (by omega))))
    rw [if_neg (by simp; omega)]
    refine Calls.then (rread_ok (at_ := k) (k := 2) hn hr5' (by omega) (by omega) (by omega)) ?_
    rintro v w6 ⟨rfl, rfl⟩
    refine ⟨_, rfl, ?_⟩
    generalize hs : un ((bs.drop k).take 2) = sz
    have hszl : sz < 65536 := by
      rw [← hs]
      have := un_lt ((bs.drop k).take 2)
      have hl2 : ((bs.drop k).take 2).length = 2 := by rw [List.length_take, List.length_drop]; omega
      rw [hl2] at this
      omega
    rw [i64w (sz : Int) (by omega) (by omega)]
    by_cases h8 : 8192 < sz
    · rw [if_neg (by simp; omega)]
      exact SplitEnd.bad hc5 (hnone (msgs_bad (.inr (.inl (by rw [hs]; exact h8)))))
    rw [if_pos (by simp; omega)]
    have e3 : IntKind.wrap .i64 (((k + 2 : Nat) : Int) + (sz : Int)) = ((k + 2 + sz : Nat) : Int) := by rw [i64w _ (by omega) (by omega)]; omega
    simp only [e3]
    have hd2 : (bs.drop k).drop 2 = bs.drop (k + 2) := by rw [List.drop_drop]
    by_cases hs3 : bs.length < k + 2 + sz
    · rw [if_pos (by simp; omega)]
      exact SplitEnd.bad hc5 (hnone (msgs_bad (.inr (.inr (by rw [hs, hd2, List.length_drop]; omega)))))
    rw [if_neg (by simp; omega)]
    simp only [Int.toNat_natCast]
    refine ⟨by omega, by omega, by omega, by omega, ?_⟩
    have hlr : ((bs.drop (k + 2)).take sz).length = sz := by rw [List.length_take, List.length_drop]; omega
    have hrow7 : RowIn w6 (orX X (fun k => w1.heap.size ≤ k)) (.slice (if c = k + 2 then a else a.map fun A => addK A ((k + 2) * 1)) (k + 2 + sz - (k + 2)) (c - (k + 2))) ((bs.drop (k + 2)).take sz) := by
      have hd := reads_take (reads_drop hr5' (k + 2) c (fun h => by rw [vals_length] at h; omega)) sz
      have e : ((vals bs).drop (k + 2)).take sz = vals ((bs.drop (k + 2)).take sz) := by simp [vals, List.map_drop, List.map_take]
      rw [e] at hd
      refine ⟨_, _, by rw [hlr]; congr 1; omega, by rw [hlr]; omega, fun e => ?_, hd, fun A e hz => ?_⟩
      · rw [hlr]
        by_cases hck : c = k + 2
        · omega
        · rw [if_neg hck] at e
          cases a with
          | none => have := h0 rfl; omega
          | some A => cases e
      · rw [hlr] at hz
        rw [if_neg (by omega)] at e
        cases a with
        | none => cases e
        | some B =>
          have := Option.some.inj e
          rw [← this, blk_addK]
          intro hxx
          exact hx B rfl (by omega) (hXo _ (Reads.lt hr (by rw [vals_length]; omega)) hxx)
    refine push_row ho5 hr5 (by omega) (Chg.refl _ _) hrow7 (fun k hk => hXn k (hb5 k hk)) ?_
    intro a8 c8 w8 ho8 hr8 hc8 hb8 hz8
    have hcs := hc5.size
    refine ⟨_, _, _, rfl, (((k + 2 + sz : Nat) : Int), a8, i + 1, c8, ((i + 1 : Nat) : Int)), ⟨rfl, rfl, ?_, trivial⟩, ⟨k + 2 + sz, i + 1, c8, a8, _, _, rfl, by omega, by omega, ?_, hc5.trans2 hc8 fun k hk e => by have := hb5 k e; omega, ho8, hr8.wide fun k _ hk => .inl hk, ?_, ?_⟩, by dsimp only; omega⟩
    · rw [i64w _ (by omega) (by omega)]; rfl
    · rw [List.length_append, hdl]; rfl
    · intro k hk
      rcases hb8 k hk with h | h
      · exact hb5 k h
      · omega
    · rw [hm5, show N - (i + 1) = f from by omega]
      conv => lhs; unfold msgs
      rw [if_neg (by omega), hs, if_neg h8, hd2, if_neg (by rw [List.length_drop]; omega), List.drop_drop]
      simp [Option.map_map, Function.comp_def]
  · rw [if_neg (by simp; omega)]
    have : i = N := by omega
    subst this
    rw [Nat.sub_self] at hm5
    by_cases hke : k = bs.length
    · rw [if_pos (by simp; omega)]
      rw [hke, List.drop_length] at hm5
      by_cases h32 : 32 < i
      · have : decide ((i : Int) ≤ 32) = false := by simp; omega
        rw [this]
        exact SplitEnd.bad hc5 (parse_bad (.inl (by omega)))
      · have : decide ((i : Int) ≤ 32) = true := by simp; omega
        rw [this]
        have hp : parse bs = some ⟨un (bs.take 4), un ((bs.drop 4).take 4), un ((bs.drop 8).take 4), done⟩ := by
          unfold parse
          rw [hN, if_neg h32, hm5]
          simp [msgs]
        refine ⟨hc5, _, _, _, _, rfl, ?_⟩
        rw [hp]
        exact ⟨rfl, hdl.symm, vs, ho5, hr5.wide fun k _ hk => .inl hk, hb5⟩
    · rw [if_neg (by simp; omega)]
      refine SplitEnd.bad hc5 (parse_bad (.inr ?_))
      rw [hN, hm5]
      have : bs.drop k ≠ [] := by
        intro h
        have := congrArg List.length h
        rw [List.length_drop] at this
        simp at this
        omega
      simp [msgs, this]
end Go.Proofs.Ytooebmpjmcmkoaa.B
