/-
  header: the eleven fields; Width, Fits, Check, the program's and the document's.
-/
import Derived.Test.YtjbgckpalaodaaaDoorBA
import Derived.Test.YtjbgckpalaodaaaDoorEngR
set_option maxRecDepth 100000
set_option linter.unusedVariables false
set_option linter.unusedSimpArgs false
namespace Go.Proofs.YtjbgckpalaodaaaDoor.B
open Go Go.Proofs Go.Proofs.YtjbgckpalaodaaaDoorEng

theorem ite_both {c : Prop} [Decidable c] {A B : Prop} (h1 : c → A) (h2 : ¬ c → B) : if c then A else B := by
  by_cases h : c
  · rw [if_pos h]; exact h1 h
  · rw [if_neg h]; exact h2 h
abbrev HN := Nat → Nat
abbrev hvs (h : HN) : Array Value := #[.int .u64 (h 0), .int .u64 (h 1), .int .u64 (h 2), .int .u64 (h 3), .int .u64 (h 4), .int .u64 (h 5), .int .u64 (h 6), .int .u64 (h 7), .int .u64 (h 8), .int .u64 (h 9), .int .u64 (h 10)]
theorem hvs_get (h : HN) : ∀ k, k < 11 → (hvs h).toList[k]? = some (.int .u64 (h k))
  | 0, _ => rfl | 1, _ => rfl | 2, _ => rfl | 3, _ => rfl | 4, _ => rfl | 5, _ => rfl | 6, _ => rfl | 7, _ => rfl | 8, _ => rfl | 9, _ => rfl | 10, _ => rfl
  | k + 11, hk => by omega
theorem hvs_at (h : HN) (k : Nat) (hk : k < 11) : (hvs h)[k]? = some (.int .u64 (h k)) := by rw [← hvs_get h k hk]; simp
def wids : List Nat := [48, 48, 16, 12, 32, 32, 8, 16, 16, 16, 16]
def wid (k : Nat) : Nat := wids.getD k 0
theorem wid_pos : ∀ k, k < 11 → 0 < wid k ∧ wid k ≤ 48
  | 0, _ => by decide | 1, _ => by decide | 2, _ => by decide | 3, _ => by decide | 4, _ => by decide | 5, _ => by decide | 6, _ => by decide | 7, _ => by decide | 8, _ => by decide | 9, _ => by decide | 10, _ => by decide
  | k + 11, hk => by omega
def widI (f : Int) : Nat := if 0 ≤ f ∧ f < 11 then wid f.toNat else 0
theorem wids_get : ∀ k, k < 11 → ([.int .i64 48, .int .i64 48, .int .i64 16, .int .i64 12, .int .i64 32, .int .i64 32, .int .i64 8, .int .i64 16, .int .i64 16, .int .i64 16, .int .i64 16] : List Value)[k]? = some (.int .i64 (wid k : Nat))
  | 0, _ => rfl | 1, _ => rfl | 2, _ => rfl | 3, _ => rfl | 4, _ => rfl | 5, _ => rfl | 6, _ => rfl | 7, _ => rfl | 8, _ => rfl | 9, _ => rfl | 10, _ => rfl
  | k + 11, hk => by omega

theorem widths_ok (w : World) : Calls Tryd.prog 24 #[] w (endW (fun v w' => v = .agg #[.int .i64 48, .int .i64 48, .int .i64 16, .int .i64 12, .int .i64 32, .int .i64 32, .int .i64 8, .int .i64 16, .int .i64 16, .int .i64 16, .int .i64 16] ∧ Chg NoS w w') (fun _ _ => False)) := by
  refine F24_calls ?_
  delta F24
  refine (sets_blk (b := w.heap.size) (t := 45) (cs := #[.int .i64 0, .int .i64 0, .int .i64 0, .int .i64 0, .int .i64 0, .int .i64 0, .int .i64 0, .int .i64 0, .int .i64 0, .int .i64 0, .int .i64 0]) (vs := [.int .i64 48, .int .i64 48, .int .i64 16, .int .i64 12, .int .i64 32, .int .i64 32, .int .i64 8, .int .i64 16, .int .i64 16, .int .i64 16, .int .i64 16]) (blk_alloc w (.cells #[.int .i64 0, .int .i64 0, .int .i64 0, .int .i64 0, .int .i64 0, .int .i64 0, .int .i64 0, .int .i64 0, .int .i64 0, .int .i64 0, .int .i64 0] 45)) rfl (by simp [oneC]) fun w' b' c' z' => ?_ : setsW _ _ _ _ _)
  have hc : ∀ k v, ([.int .i64 48, .int .i64 48, .int .i64 16, .int .i64 12, .int .i64 32, .int .i64 32, .int .i64 8, .int .i64 16, .int .i64 16, .int .i64 16, .int .i64 16] : List Value)[k]? = some v → w'.cell? (addK ⟨w.heap.size, 0, none⟩ k) = some v := fun k v hv => by
    rw [addK_lit, Nat.zero_add, cell_blk b']
    simpa using hv
  refine ⟨_, hc 0 _ rfl, _, hc 1 _ rfl, _, hc 2 _ rfl, _, hc 3 _ rfl, _, hc 4 _ rfl, _, hc 5 _ rfl, _, hc 6 _ rfl, _, hc 7 _ rfl, _, hc 8 _ rfl, _, hc 9 _ rfl, _, hc 10 _ rfl, rfl, ?_⟩
  exact (chg_alloc w _ _).trans2 c' fun k hk e => by
    have : k = w.heap.size := e
    omega

theorem Width_ok (w : World) (f : Int) : Calls Tryd.prog 12 #[.int .i8 f] w (endW (fun v w' => v = .int .i64 (widI f : Nat) ∧ Chg NoS w w') (fun _ _ => False)) := by
  refine F12_calls _ ?_
  delta F12
  by_cases h0 : f < 0
  · rw [if_neg (by simp; omega)]
    refine ⟨?_, Chg.refl _ _⟩
    unfold widI; rw [if_neg (by omega)]; rfl
  rw [if_pos (by simp; omega)]
  by_cases h1 : f ≥ 11
  · rw [if_pos (by simp; omega)]
    refine ⟨?_, Chg.refl _ _⟩
    unfold widI; rw [if_neg (by omega)]; rfl
  rw [if_neg (by simp; omega)]
  refine Calls.then (widths_ok w) ?_
  rintro v w1 ⟨rfl, hc⟩
  refine ⟨_, rfl, ?_⟩
  repeat (refine ⟨_, _, rfl, _, rfl, ?_⟩)
  refine ⟨rfl, by omega, by omega, by simp; omega, ?_⟩
  obtain ⟨k, rfl⟩ : ∃ k : Nat, f = (k : Int) := ⟨f.toNat, by omega⟩
  have hk : k < 11 := by omega
  have hw : widI (k : Int) = wid k := by unfold widI; rw [if_pos (by omega)]; rfl
  rw [Int.toNat_natCast, hw]
  have := wids_get k hk
  refine ⟨(wid k : Nat), ?_, rfl, hc⟩
  rw [this]

theorem rWidth_ok (w : World) (f : Int) : Calls Tryd.prog 13 #[.int .i8 f] w (endW (fun v w' => v = .int .i64 (widI f : Nat) ∧ Chg NoS w w') (fun _ _ => False)) := by
  refine F13_calls _ ?_
  delta F13
  have key : ∀ (x : Int), (widI f : Int) = x → (Value.int .i64 x : Value) = .int .i64 (widI f : Nat) ∧ Chg NoS w w := fun x e => ⟨by rw [e], Chg.refl _ _⟩
  by_cases hr : 0 ≤ f ∧ f < 11
  · obtain ⟨k, rfl⟩ : ∃ k : Nat, f = (k : Int) := ⟨f.toNat, by omega⟩
    have hk : k < 11 := by omega
    have hw : widI (k : Int) = wid k := by unfold widI; rw [if_pos (by omega)]; rfl
    match k, hk with
    | 0, _ => exact key _ rfl
    | 1, _ => exact key _ rfl
    | 2, _ => exact ⟨fun s w' => w' = w ∧ s = true, fun s w' hj _ => by obtain ⟨rfl, rfl⟩ := hj; exact key _ rfl, ⟨_, ⟨rfl, trivial⟩, rfl, rfl⟩⟩
    | 3, _ => exact ⟨fun s w' => w' = w ∧ s = false, fun s w' hj _ => by obtain ⟨rfl, rfl⟩ := hj; exact key _ rfl, ⟨_, ⟨rfl, trivial⟩, rfl, rfl⟩⟩
    | 4, _ => exact ⟨fun s w' => w' = w ∧ s = false, fun s w' hj _ => by obtain ⟨rfl, rfl⟩ := hj; exact key _ rfl, ⟨_, ⟨rfl, trivial⟩, rfl, rfl⟩⟩
    | 5, _ => exact ⟨fun s w' => w' = w ∧ s = false, fun s w' hj _ => by obtain ⟨rfl, rfl⟩ := hj; exact key _ rfl, ⟨_, ⟨rfl, trivial⟩, rfl, rfl⟩⟩
    | 6, _ => exact ⟨fun s w' => w' = w ∧ s = false, fun s w' hj _ => by obtain ⟨rfl, rfl⟩ := hj; exact key _ rfl, ⟨_, ⟨rfl, trivial⟩, rfl, rfl⟩⟩
    | 7, _ => exact ⟨fun s w' => w' = w ∧ s = true, fun s w' hj _ => by obtain ⟨rfl, rfl⟩ := hj; exact key _ rfl, ⟨_, ⟨rfl, trivial⟩, rfl, rfl⟩⟩
    | 8, _ => exact ⟨fun s w' => w' = w ∧ s = true, fun s w' hj _ => by obtain ⟨rfl, rfl⟩ := hj; exact key _ rfl, ⟨_, ⟨rfl, trivial⟩, rfl, rfl⟩⟩
    | 9, _ => exact ⟨fun s w' => w' = w ∧ s = true, fun s w' hj _ => by obtain ⟨rfl, rfl⟩ := hj; exact key _ rfl, ⟨_, ⟨rfl, trivial⟩, rfl, rfl⟩⟩
    | 10, _ => exact ⟨fun s w' => w' = w ∧ s = true, fun s w' hj _ => by obtain ⟨rfl, rfl⟩ := hj; exact key _ rfl, ⟨_, ⟨rfl, trivial⟩, rfl, rfl⟩⟩
    | k + 11, hk => omega
  · have hw : widI f = 0 := by unfold widI; rw [if_neg hr]
    rw [if_neg (by simp; omega), if_neg (by simp; omega)]
    refine ⟨fun s w' => w' = w ∧ s = false, fun s w' hj _ => ?_, ?_⟩
    · obtain ⟨rfl, rfl⟩ := hj
      rw [if_neg (by simp), if_neg (by simp; omega), if_neg (by simp; omega), if_neg (by simp; omega), if_neg (by simp; omega)]
      exact key _ (by rw [hw]; rfl)
    · rw [if_neg (by simp; omega), if_neg (by simp; omega), if_neg (by simp; omega), if_neg (by simp; omega)]
      exact ⟨_, ⟨rfl, trivial⟩, rfl, by simp; omega⟩

/-- a number that fits into a field -/
def fitsN (f : Int) (n : Nat) : Bool := decide (0 < widI f ∧ n < 2 ^ widI f)
theorem fits_val {k n : Nat} (hk : k ≤ 48) (h0 : 0 < k) : (Int.fdiv (n : Int) ((2 : Int) ^ min (IntKind.wrap .u64 (k : Int)).toNat 64) == 0) = decide (n < 2 ^ k) := by
  have e : IntKind.wrap .u64 (k : Int) = (k : Int) := u64w _ (by omega) (by omega)
  rw [e, Int.toNat_natCast, Nat.min_eq_left (by omega), Int.fdiv_eq_ediv_of_nonneg _ (Int.pow_nonneg (by omega))]
  have e2 : ((n : Int) / (2 : Int) ^ k) = ((n / 2 ^ k : Nat) : Int) := by push_cast; rfl
  rw [e2]
  have h2 : 0 < 2 ^ k := Nat.two_pow_pos k
  by_cases h : n < 2 ^ k
  · simp [Nat.div_eq_of_lt h, h]
  · have : 0 < n / 2 ^ k := Nat.div_pos (by omega) h2
    simp [h]
    omega
theorem widI_le (f : Int) : widI f ≤ 48 := by
  unfold widI
  split
  · exact (wid_pos _ (by omega)).2
  · omega
theorem Fits_ok (w : World) (f : Int) (n : Nat) : Calls Tryd.prog 15 #[.int .i8 f, .int .u64 n] w (endW (fun v w' => v = .bool (fitsN f n) ∧ Chg NoS w w') (fun _ _ => False)) := by
  refine F15_calls _ _ ?_
  delta F15
  refine Calls.then (Width_ok w f) ?_
  rintro v w1 ⟨rfl, hc⟩
  refine ⟨_, rfl, ?_⟩
  have hle := widI_le f
  by_cases h0 : 0 < widI f
  · rw [if_pos (by simp; omega)]
    refine ⟨by rw [u64w _ (by omega) (by omega)]; omega, ?_, hc⟩
    rw [fits_val hle h0]
    simp [fitsN, h0]
  · rw [if_neg (by simp; omega)]
    exact ⟨by simp [fitsN, h0], hc⟩
theorem rFits_ok (w : World) (f : Int) (n : Nat) : Calls Tryd.prog 16 #[.int .i8 f, .int .u64 n] w (endW (fun v w' => v = .bool (fitsN f n) ∧ Chg NoS w w') (fun _ _ => False)) := by
  refine F16_calls _ _ ?_
  delta F16
  refine Calls.then (rWidth_ok w f) ?_
  rintro v w1 ⟨rfl, hc⟩
  refine ⟨_, rfl, ?_⟩
  have hle := widI_le f
  by_cases h0 : 0 < widI f
  · rw [if_pos (by simp; omega)]
    refine ⟨by rw [u64w _ (by omega) (by omega)]; omega, ?_, hc⟩
    rw [fits_val hle h0]
    simp [fitsN, h0]
  · rw [if_neg (by simp; omega)]
    exact ⟨by simp [fitsN, h0], hc⟩

/-! ### a header -/
def okH (h : HN) : Prop := (∀ f, f < 11 → h f < 2 ^ wid f) ∧ h 2 ≠ 33024 ∧ ¬ h 2 < 1536 ∧ (h 2 = 2048 ∨ h 6 = 0) ∧ (h 2 = 2048 ∨ h 2 = 2054 ∨ (h 4 = 0 ∧ h 5 = 0)) ∧ ((h 2 = 2048 ∧ (h 6 = 6 ∨ h 6 = 17)) ∨ (h 7 = 0 ∧ h 8 = 0))
instance (h : HN) : Decidable (okH h) := by unfold okH; infer_instance
def chk (h : HN) : Int := if okH h then 0 else 10
theorem fitsN_nat {k n : Nat} (hk : k < 11) : fitsN (k : Int) n = decide (n < 2 ^ wid k) := by
  have hw : widI (k : Int) = wid k := by unfold widI; rw [if_pos (by omega)]; rfl
  unfold fitsN
  rw [hw]
  simp [(wid_pos k hk).1]
theorem or_nat {a b : Nat} (ha : a < 2 ^ 48) (hb : b < 2 ^ 48) : (IntKind.wrap .u64 ((BitVec.ofInt 64 (a : Int) ||| BitVec.ofInt 64 (b : Int)).toNat : Int) != 0) = decide (¬ (a = 0 ∧ b = 0)) := by
  have e : (BitVec.ofInt 64 (a : Int) ||| BitVec.ofInt 64 (b : Int)).toNat = a ||| b := by
    rw [BitVec.toNat_or, BitVec.toNat_ofInt, BitVec.toNat_ofInt]
    congr 1 <;> omega
  have hlt : a ||| b < 2 ^ 48 := Nat.or_lt_two_pow ha hb
  rw [e, u64w _ (by omega) (by omega)]
  have : a ||| b = 0 ↔ a = 0 ∧ b = 0 := Nat.or_eq_zero_iff
  by_cases h : a = 0 ∧ b = 0
  · obtain ⟨rfl, rfl⟩ := h; simp
  · have h2 : ¬ (a ||| b = 0) := fun e => h (this.1 e)
    simp only [h, not_false_eq_true, decide_true]
    simp
    omega
theorem wid_lt48 {h : HN} (hall : ∀ f, f < 11 → h f < 2 ^ wid f) {f : Nat} (hf : f < 11) : h f < 2 ^ 48 := Nat.lt_of_lt_of_le (hall f hf) (Nat.pow_le_pow_right (by omega) (wid_pos f hf).2)
end Go.Proofs.YtjbgckpalaodaaaDoor.B
