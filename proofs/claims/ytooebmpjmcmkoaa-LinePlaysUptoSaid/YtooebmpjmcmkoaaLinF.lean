/-
  line: what read defers: nothing where it returns; where the cursor gave up, the error is laid.
-/
import Derived.Test.YtooebmpjmcmkoaaLinE
import Derived.Test.YtooebmpjmcmkoaaProg
import Derived.Tactics
import Derived.Tactics2
import Derived.Defers
import Derived.Recover
import Derived.Laws.Pointers
import Derived.RegionTactic
import Derived.RegionCalls
set_option maxRecDepth 100000
set_option linter.unusedVariables false
set_option linter.unusedSimpArgs false
namespace Go.Proofs.Ytooebmpjmcmkoaa.B
open Go Go.Proofs Go.Proofs.YtooebmpjmcmkoaaEng

theorem catch_idle (p : Addr) (w : World) :
    CallsD Try.prog 43 #[.pointer (some p)] .returning w fun e u' w' => e = .returned (.tuple #[]) ∧ u' = .returning ∧ w' = w := by
  refine callsD_of_wpS Try.func43 rfl fun c₀ cs hu => ?_
  apply wpS_seq
  apply wpS_region
  simp [wpOpsS, go_sem, recoverD, hu, Try.ntmps43, Exit.thenS]
  refine wpS_of_wp ?_
  go_wp2
  cases c₀
  simp_all [bodyPostS, results, Try.results43]

theorem catch_short (p : Addr) (x : Value) (w : World) (hc : w.cell? p = some x) (hz : w.frozen? p = false) (hlt : p.block < w.heap.size) :
    CallsD Try.prog 43 #[.pointer (some p)] (.panicking [{ v := .iface 70 (.agg #[]), recovered := false }]) w fun e u' w' =>
      e = .returned (.tuple #[]) ∧ u' = .panicking [{ v := .iface 70 (.agg #[]), recovered := true }] ∧ w' = (w.alloc (.cells #[] 70)).setCell p (.int .i64 70) := by
  have hta : ∀ w, (Instr.typeAssert (.iface 70 (.agg #[])) 20 70 true).run Try.prog w = .ok (.tuple #[.agg #[], .bool true]) w := fun w => by rfl
  have hc' : (w.alloc (.cells #[] 70)).cell? p = some x := (chg_alloc w (.cells #[] 70) NoS).sameOld.cell hc
  have hz' : (w.alloc (.cells #[] 70)).frozen? p = false := by
    unfold World.frozen? at hz ⊢
    rw [(chg_alloc w (.cells #[] 70) NoS).block p.block hlt (fun h => h)]
    exact hz
  refine callsD_of_wpS Try.func43 rfl fun c₀ cs hu => ?_
  apply wpS_seq
  apply wpS_region
  simp [wpOpsS, go_sem, recoverD, hu, Try.ntmps43, Exit.thenS]
  refine wpS_of_wp ?_
  go_wp2
  simp [bodyPostS, results, Try.results43]

/-! ### the cursor -/
def un (bs : List UInt8) : Nat := bs.foldl (fun n b => n * 256 + b.toNat) 0
theorem un_snoc (bs : List UInt8) (b : UInt8) : un (bs ++ [b]) = un bs * 256 + b.toNat := by simp [un]
theorem un_lt' : ∀ (bs : List UInt8) (n : Nat), bs.foldl (fun n b => n * 256 + b.toNat) n < (n + 1) * 256 ^ bs.length
  | [], n => by simp
  | b :: bs, n => by
    have := un_lt' bs (n * 256 + b.toNat)
    have hb := b.toNat_lt
    have h2 : (n * 256 + b.toNat + 1) * 256 ^ bs.length ≤ ((n + 1) * 256) * 256 ^ bs.length := Nat.mul_le_mul_right _ (by omega)
    simp only [List.foldl_cons, List.length_cons, Nat.pow_succ]
    have e : (n + 1) * (256 ^ bs.length * 256) = ((n + 1) * 256) * 256 ^ bs.length := by rw [Nat.mul_assoc, Nat.mul_comm 256]
    rw [e]
    omega
theorem un_lt (bs : List UInt8) : un bs < 256 ^ bs.length := by
  have := un_lt' bs 0
  simpa [un] using this
theorem or8 {n : Nat} {x : UInt8} (hn : n < 2 ^ 24) : IntKind.wrap .u32 (((BitVec.ofInt 32 (IntKind.wrap .u32 ((n : Int) * 2 ^ 8)) ||| BitVec.ofInt 32 (IntKind.wrap .u32 (x.toNat : Int))).toNat : Nat) : Int) = ((n * 256 + x.toNat : Nat) : Int) := by
  have hx := x.toNat_lt
  have e1 : IntKind.wrap .u32 ((n : Int) * 2 ^ 8) = ((n * 256 : Nat) : Int) := by
    rw [IntWalk.u32_in _ (by omega)]; omega
  have e2 : IntKind.wrap .u32 (x.toNat : Int) = ((x.toNat : Nat) : Int) := IntWalk.u32_in _ (by omega)
  rw [e1, e2]
  have e3 : (BitVec.ofInt 32 ((n * 256 : Nat) : Int) ||| BitVec.ofInt 32 ((x.toNat : Nat) : Int)).toNat = n * 256 + x.toNat := by
    rw [BitVec.toNat_or]
    simp only [BitVec.ofInt_natCast, BitVec.toNat_ofNat]
    rw [Nat.mod_eq_of_lt (by omega), Nat.mod_eq_of_lt (by omega)]
    have := Nat.shiftLeft_add_eq_or_of_lt (b := x.toNat) (i := 8) (by omega) n
    rw [Nat.shiftLeft_eq] at this
    exact this.symm
  rw [e3]
  exact IntWalk.u32_in _ (by omega)

def CurAt (w : World) (X : Nat → Prop) (q : Nat) (bs : List UInt8) : Prop := ∃ v, w.heap[q]? = some (.cells #[v] 73 (0, 0)) ∧ RowIn w X v bs ∧ X q
/-- the cursor gave up -/
def Gave (w : World) (c : List PanicEntry) (w' : World) : Prop := c = [{ v := .iface 70 (.agg #[]), recovered := false }] ∧ w' = w
theorem take_short {w : World} {X : Nat → Prop} {q k : Nat} {bs : List UInt8} (h : CurAt w X q bs) (hk : bs.length < k) :
    Calls Try.prog 45 #[.pointer (some ⟨q, 0, none⟩), .int .i64 k] w (endW (fun _ _ => False) (Gave w)) := by
  obtain ⟨v, hb, ⟨a, c, rfl, hlc, h0, hr, hx⟩, hq⟩ := h
  refine F45_calls _ _ ?_
  delta F45
  refine wSome_of rfl ⟨_, _, _, by rw [addK_lit, cell_blk hb]; rfl, ?_⟩
  rw [if_pos (by simp; omega)]
  exact ⟨rfl, rfl⟩
theorem take_ok {w : World} {X : Nat → Prop} {q k : Nat} {bs : List UInt8} (h : CurAt w X q bs) (hk : k ≤ bs.length) :
    Calls Try.prog 45 #[.pointer (some ⟨q, 0, none⟩), .int .i64 k] w (endW (fun v w' => RowIn w' X v (bs.take k) ∧ CurAt w' X q (bs.drop k) ∧ Chg (OnlyB q) w w' ∧ w'.heap.size = w.heap.size) (fun _ _ => False)) := by
  obtain ⟨v, hb, hrow, hq⟩ := h
  have hrow' := hrow
  obtain ⟨a, c, rfl, hlc, h0, hr, hx⟩ := hrow'
  have hcell : w.cell? ⟨q, 0, none⟩ = some (.slice a bs.length c) := by rw [cell_blk hb]; rfl
  refine F45_calls _ _ ?_
  delta F45
  simp only [addK_lit, Int.toNat_natCast, Nat.sub_zero, cut0, Nat.mul_one, S.ite_dec]
  refine wSome_of rfl ⟨_, _, _, hcell, ?_⟩
  rw [if_neg (by simp; omega)]
  refine wSome_of rfl ⟨_, _, _, hcell, by omega, by omega, by omega, by omega, wSome_of rfl ⟨_, _, _, hcell, by omega, by omega, wSome_of rfl ?_⟩⟩
  refine setW_blk hb (by simp) rfl ?_
  intro w' hb' hc' hz'
  have hdrop : RowIn w X (.slice (if c = k then a else Option.map (fun a => addK a k) a) (bs.length - k) (c - k)) (bs.drop k) := by
    have hd := reads_drop hr k c (fun _ => by rw [vals_length] at *; omega)
    simp only [Nat.mul_one] at hd
    have e : (vals bs).drop k = vals (bs.drop k) := by simp [vals, List.map_drop]
    rw [e] at hd
    refine ⟨_, _, by rw [List.length_drop], by rw [List.length_drop]; omega, fun e => ?_, hd, fun A e hz => ?_⟩
    · rw [List.length_drop]
      by_cases hck : c = k
      · omega
      · rw [if_neg hck] at e
        cases a with
        | none => have := h0 rfl; omega
        | some A => cases e
    · rw [List.length_drop] at hz
      rw [if_neg (by omega)] at e
      cases a with
      | none => cases e
      | some B =>
        have := Option.some.inj e
        rw [← this, blk_addK]
        exact hx B rfl (by omega)
  have htake : RowIn w X (.slice a k k) (bs.take k) := by
    have e : (vals bs).take k = vals (bs.take k) := by simp [vals, List.map_take]
    have hl : (bs.take k).length = k := by rw [List.length_take]; omega
    refine ⟨a, k, by rw [hl], by omega, fun e => by have := h0 e; omega, by rw [← e]; exact reads_take hr k, fun A e hz => hx A e (by omega)⟩
  exact ⟨htake.chg hc' (fun j _ e => by rw [show j = q from e]; exact hq), ⟨_, hb', hdrop.chg hc' (fun j _ e => by rw [show j = q from e]; exact hq), hq⟩, hc', hz'⟩

theorem un_lt32 {bs : List UInt8} (h : bs.length ≤ 3) : un bs < 2 ^ 24 := by
  have := un_lt bs
  have : 256 ^ bs.length ≤ 256 ^ 3 := Nat.pow_le_pow_right (by omega) h
  omega
theorem cnumber_short {w : World} {X : Nat → Prop} {q k : Nat} {bs : List UInt8} (h : CurAt w X q bs) (hk : bs.length < k) :
    Calls Try.prog 44 #[.pointer (some ⟨q, 0, none⟩), .int .i64 k] w (endW (fun _ _ => False) (Gave w)) := by
  refine F44_calls _ _ ?_
  delta F44
  refine (take_short h hk).mono ?_
  intro e w' he
  cases e with
  | returned v => exact he.elim
  | panicked c => exact he
  | outgrown => exact he
theorem cnumber_ok {w : World} {X : Nat → Prop} {q k : Nat} {bs : List UInt8} (h : CurAt w X q bs) (hk : k ≤ bs.length) (hk4 : k ≤ 4) :
    Calls Try.prog 44 #[.pointer (some ⟨q, 0, none⟩), .int .i64 k] w (endW (fun v w' => v = .int .u32 (un (bs.take k) : Int) ∧ CurAt w' X q (bs.drop k) ∧ Chg (OnlyB q) w w' ∧ w'.heap.size = w.heap.size) (fun _ _ => False)) := by
  refine F44_calls _ _ ?_
  delta F44
  refine Calls.then (take_ok h hk) ?_
  rintro v w1 ⟨hrow, hcur, hc1, hz1⟩
  obtain ⟨a, c, rfl, hlc, h0, hr, hx⟩ := hrow
  have hl : (bs.take k).length = k := by rw [List.length_take]; omega
  generalize ht : bs.take k = ts at hl hlc h0 hr
  refine ⟨_, _, _, rfl, fun s w' => w' = w1 ∧ ∃ i : Nat, s = ((un (ts.take i) : Int), (i : Int)) ∧ i ≤ ts.length, fun s _ => (ts.length - s.2).toNat, ⟨(0, 0), ⟨rfl, rfl, trivial⟩, rfl, 0, rfl, by omega⟩, ?_⟩
  rintro s w2 ⟨rfl, i, rfl, hi⟩ _
  dsimp only
  by_cases hlt : i < ts.length
  · rw [if_pos (by simp; omega)]
    obtain ⟨A, rfl, hcell⟩ := hr i _ (vals_get hlt)
    refine ⟨by omega, by omega, wSome_of rfl ⟨_, by simpa using hcell, by omega, ((un (ts.take (i + 1)) : Int), ((i + 1 : Nat) : Int)), ⟨?_, ?_, trivial⟩, ⟨rfl, i + 1, rfl, by omega⟩, by dsimp only; omega⟩⟩
    · have e : ts.take (i + 1) = ts.take i ++ [ts[i]] := by rw [List.take_append_getElem hlt]
      rw [e, un_snoc, or8 (un_lt32 (by rw [List.length_take]; omega))]
    · rw [i64w _ (by omega) (by omega)]; rfl
  · rw [if_neg (by simp; omega)]
    have : i = ts.length := by omega
    subst this
    rw [List.take_length]
    exact ⟨rfl, hcur, hc1, hz1⟩
end Go.Proofs.Ytooebmpjmcmkoaa.B
