/-
  The seal's arithmetic, in plain Lean: no program in sight.
-/
namespace Go.Proofs.YtooebmpjmcmkoaaCrc
set_option linter.unusedVariables false
set_option linter.unusedSimpArgs false

def poly : BitVec 32 := 0xEDB88320#32
def st (n : BitVec 32) : BitVec 32 := (n >>> 1) ^^^ (if n.getLsbD 0 then poly else 0#32)
def sts : Nat → BitVec 32 → BitVec 32
  | 0, n => n
  | k + 1, n => sts k (st n)
theorem st_bit (n : BitVec 32) (i : Nat) : (st n).getLsbD i = (n.getLsbD (i + 1) ^^ (n.getLsbD 0 && poly.getLsbD i)) := by
  unfold st
  rw [BitVec.getLsbD_xor, BitVec.getLsbD_ushiftRight, Nat.add_comm 1 i]
  cases n.getLsbD 0 <;> simp
theorem st_xor (a b : BitVec 32) : st (a ^^^ b) = st a ^^^ st b := by
  apply BitVec.eq_of_getLsbD_eq
  intro i _
  simp only [st_bit, BitVec.getLsbD_xor]
  cases a.getLsbD 0 <;> cases b.getLsbD 0 <;> cases a.getLsbD (i + 1) <;> cases b.getLsbD (i + 1) <;> cases poly.getLsbD i <;> rfl
theorem st_zero : st 0#32 = 0#32 := by decide
theorem st_ne {n : BitVec 32} (h : n ≠ 0#32) : st n ≠ 0#32 := by
  intro e
  apply h
  have h31 := st_bit n 31
  have hb : ∀ i, (st n).getLsbD i = false := fun i => by rw [e]; simp
  rw [hb, BitVec.getLsbD_of_ge n 32 (by omega), show poly.getLsbD 31 = true from by decide] at h31
  have h0 : n.getLsbD 0 = false := by
    cases hx : n.getLsbD 0 with
    | false => rfl
    | true => rw [hx] at h31; exact absurd h31 (by decide)
  apply BitVec.eq_of_getLsbD_eq
  intro i hi
  cases i with
  | zero => rw [h0]; simp
  | succ i =>
    have := st_bit n i
    rw [hb, h0] at this
    simp at this
    rw [BitVec.getLsbD_zero]
    exact this
theorem sts_xor (k : Nat) : ∀ a b : BitVec 32, sts k (a ^^^ b) = sts k a ^^^ sts k b := by
  induction k with
  | zero => exact fun _ _ => rfl
  | succ k ih => intro a b; simp only [sts, st_xor, ih]
theorem sts_zero (k : Nat) : sts k 0#32 = 0#32 := by
  induction k with
  | zero => rfl
  | succ k ih => simp only [sts, st_zero, ih]
theorem sts_ne (k : Nat) : ∀ {n : BitVec 32}, n ≠ 0#32 → sts k n ≠ 0#32 := by
  induction k with
  | zero => exact fun h => h
  | succ k ih => exact fun h => ih (st_ne h)
theorem sts_inj {k : Nat} {a b : BitVec 32} (h : sts k a = sts k b) : a = b := by
  refine Classical.byContradiction fun hne => ?_
  have h1 : a ^^^ b ≠ 0#32 := fun e => hne (by
    have e2 := congrArg (· ^^^ b) e
    rw [BitVec.xor_assoc, BitVec.xor_self, BitVec.xor_zero, BitVec.zero_xor] at e2
    exact e2)
  exact sts_ne k h1 (by rw [sts_xor, h, BitVec.xor_self])
theorem sts_add (m k : Nat) : ∀ n, sts (m + k) n = sts k (sts m n) := by
  induction m with
  | zero => intro n; simp [sts]
  | succ m ih => intro n; rw [show m + 1 + k = (m + k) + 1 from by omega]; simp only [sts, ih]
theorem sts_succ (k : Nat) (n : BitVec 32) : sts (k + 1) n = st (sts k n) := sts_add k 1 n
theorem st_even {n : BitVec 32} (h : n.getLsbD 0 = false) : st n = n >>> 1 := by
  unfold st; rw [h]; simp
theorem sts_even (k : Nat) : ∀ {n : BitVec 32}, (∀ i, i < k → n.getLsbD i = false) → sts k n = n >>> k := by
  induction k with
  | zero => intro n _; simp [sts]
  | succ k ih =>
    intro n h
    have hx := st_even (h 0 (by omega))
    have h2 : ∀ i, i < k → (n >>> 1).getLsbD i = false := fun i hi => by
      rw [BitVec.getLsbD_ushiftRight, Nat.add_comm]; exact h (i + 1) (by omega)
    simp only [sts]
    rw [hx, ih h2, ← BitVec.shiftRight_add, Nat.add_comm]
theorem sts_one {k : Nat} (h : k < 32) : sts k (1#32 <<< k) = 1#32 := by
  have : ∀ k, k < 32 → sts k (1#32 <<< k) = 1#32 := by decide
  exact this k h

/-- a byte -/
def bst (n : BitVec 32) (x : BitVec 8) : BitVec 32 := sts 8 (n ^^^ x.setWidth 32)
def run (n : BitVec 32) (bs : List (BitVec 8)) : BitVec 32 := bs.foldl bst n
def crc (bs : List (BitVec 8)) : BitVec 32 := ~~~ (run (BitVec.allOnes 32) bs)
def tab (j : Nat) : BitVec 32 := sts 8 (BitVec.ofNat 32 j)
theorem bst_tab (n : BitVec 32) (x : BitVec 8) : bst n x = (n >>> 8) ^^^ tab (n.setWidth 8 ^^^ x).toNat := by
  have h : n ^^^ x.setWidth 32 = (n &&& ~~~ 255#32) ^^^ BitVec.ofNat 32 (n.setWidth 8 ^^^ x).toNat := by
    rw [BitVec.ofNat_toNat]
    apply BitVec.eq_of_getLsbD_eq
    intro i hi
    have h255 : (255#32).getLsbD i = decide (i < 8) := by
      have : ∀ i, i < 32 → (255#32).getLsbD i = decide (i < 8) := by decide
      exact this i hi
    simp only [BitVec.getLsbD_xor, BitVec.getLsbD_setWidth, BitVec.getLsbD_and, BitVec.getLsbD_not, h255, hi]
    by_cases h8 : i < 8
    · simp [h8]
    · rw [BitVec.getLsbD_of_ge x i (by omega)]
      simp [h8]
  unfold bst tab
  rw [h, sts_xor, sts_even 8]
  · congr 1
    apply BitVec.eq_of_getLsbD_eq
    intro i hi
    have h255 : 8 + i < 32 → (255#32).getLsbD (8 + i) = false := by
      intro h
      have : ∀ j, j < 32 → 8 ≤ j → (255#32).getLsbD j = false := by decide
      exact this _ h (by omega)
    simp only [BitVec.getLsbD_ushiftRight, BitVec.getLsbD_and, BitVec.getLsbD_not]
    by_cases h' : 8 + i < 32
    · rw [h255 h', decide_eq_true h']; simp
    · rw [BitVec.getLsbD_of_ge n _ (by omega)]; simp
  · intro i hi
    have : ∀ i, i < 8 → (255#32).getLsbD i = true := by decide
    rw [BitVec.getLsbD_and, BitVec.getLsbD_not, this i hi]; simp
theorem run_nil (n : BitVec 32) : run n [] = n := rfl
theorem run_cons (n : BitVec 32) (x : BitVec 8) (bs : List (BitVec 8)) : run n (x :: bs) = run (bst n x) bs := rfl
theorem run_append (n : BitVec 32) (a b : List (BitVec 8)) : run n (a ++ b) = run (run n a) b := by unfold run; rw [List.foldl_append]
theorem run_snoc (n : BitVec 32) (a : List (BitVec 8)) (x : BitVec 8) : run n (a ++ [x]) = bst (run n a) x := run_append n a [x]
theorem bst_xor (m n : BitVec 32) (x y : BitVec 8) : bst (m ^^^ n) (x ^^^ y) = bst m x ^^^ bst n y := by
  unfold bst
  rw [← sts_xor]
  congr 1
  rw [BitVec.setWidth_xor]
  ac_rfl
theorem bst_zero (n : BitVec 32) : bst n 0#8 = sts 8 n := by unfold bst; simp
/-- what stands in the register, goes through all that comes behind -/
theorem run_xor (d : BitVec 32) : ∀ (bs : List (BitVec 8)) (n : BitVec 32), run (n ^^^ d) bs = run n bs ^^^ sts (8 * bs.length) d
  | [], n => by simp [run_nil, sts]
  | x :: bs, n => by
    rw [run_cons, run_cons]
    have : bst (n ^^^ d) x = bst n x ^^^ sts 8 d := by
      have := bst_xor n d x 0#8
      rw [BitVec.xor_zero, bst_zero] at this
      exact this
    rw [this, run_xor (sts 8 d) bs, ← sts_add, List.length_cons, show 8 * (bs.length + 1) = 8 + 8 * bs.length from by omega]
/-- rows of one length, by exclusive or -/
theorem run_four : ∀ (a b : List (BitVec 8)) (m n : BitVec 32), a.length = b.length → run (m ^^^ n) (List.zipWith (· ^^^ ·) a b) = run m a ^^^ run n b
  | [], [], m, n, _ => rfl
  | x :: a, y :: b, m, n, h => by
    simp only [List.zipWith_cons_cons, run_cons, bst_xor]
    exact run_four a b _ _ (by simpa using h)
  | [], _ :: _, _, _, h => by simp at h
  | _ :: _, [], _, _, h => by simp at h
theorem run_zeros (k : Nat) : ∀ n, run n (List.replicate k 0#8) = sts (8 * k) n := by
  induction k with
  | zero => intro n; simp [run_nil, sts]
  | succ k ih => intro n; rw [List.replicate_succ, run_cons, ih, bst_zero, ← sts_add]; congr 1; omega
theorem crc_linear {a b : List (BitVec 8)} (h : a.length = b.length) : crc a ^^^ crc b ^^^ crc (List.zipWith (· ^^^ ·) a b) ^^^ crc (List.replicate a.length 0#8) = 0#32 := by
  have h1 := run_four a b (BitVec.allOnes 32) 0#32 h
  rw [BitVec.xor_zero] at h1
  have h2 : run (BitVec.allOnes 32) b = run 0#32 b ^^^ sts (8 * b.length) (BitVec.allOnes 32) := by
    have := run_xor (BitVec.allOnes 32) b 0#32
    rw [BitVec.zero_xor] at this
    exact this
  unfold crc
  rw [h1, run_zeros, h2, h]
  generalize run (BitVec.allOnes 32) a = p
  generalize run 0#32 b = q
  generalize sts (8 * b.length) (BitVec.allOnes 32) = r
  apply BitVec.eq_of_getLsbD_eq
  intro i hi
  simp only [BitVec.getLsbD_xor, BitVec.getLsbD_not, hi, BitVec.getLsbD_zero]
  cases p.getLsbD i <;> cases q.getLsbD i <;> cases r.getLsbD i <;> rfl

/-- four bytes, the least first -/
def le4 (n : BitVec 32) : List (BitVec 8) := [n.setWidth 8, (n >>> 8).setWidth 8, (n >>> 16).setWidth 8, (n >>> 24).setWidth 8]
def un4 (a b c d : BitVec 8) : BitVec 32 := a.setWidth 32 ||| (b.setWidth 32 <<< 8) ||| (c.setWidth 32 <<< 16) ||| (d.setWidth 32 <<< 24)
theorem un4_bit (a b c d : BitVec 8) (i : Nat) (hi : i < 32) : (un4 a b c d).getLsbD i = if i < 8 then a.getLsbD i else if i < 16 then b.getLsbD (i - 8) else if i < 24 then c.getLsbD (i - 16) else d.getLsbD (i - 24) := by
  unfold un4
  simp only [BitVec.getLsbD_or, BitVec.getLsbD_setWidth, BitVec.getLsbD_shiftLeft, hi, decide_true, Bool.true_and]
  by_cases h1 : i < 8
  · simp [h1, show i < 16 from by omega, show i < 24 from by omega]
  · by_cases h2 : i < 16
    · simp [h1, h2, show i < 24 from by omega, BitVec.getLsbD_of_ge a i (by omega), show i - 8 < 32 from by omega]
    · by_cases h3 : i < 24
      · simp [h1, h2, h3, BitVec.getLsbD_of_ge a i (by omega), BitVec.getLsbD_of_ge b (i - 8) (by omega), show i - 16 < 32 from by omega]
      · simp [h1, h2, h3, BitVec.getLsbD_of_ge a i (by omega), BitVec.getLsbD_of_ge b (i - 8) (by omega), BitVec.getLsbD_of_ge c (i - 16) (by omega), show i - 24 < 32 from by omega]
theorem un4_le4 (n : BitVec 32) : un4 (n.setWidth 8) ((n >>> 8).setWidth 8) ((n >>> 16).setWidth 8) ((n >>> 24).setWidth 8) = n := by
  apply BitVec.eq_of_getLsbD_eq
  intro i hi
  rw [un4_bit _ _ _ _ i hi]
  simp only [BitVec.getLsbD_setWidth, BitVec.getLsbD_ushiftRight]
  by_cases h1 : i < 8
  · simp [h1]
  · by_cases h2 : i < 16
    · simp [h1, h2, show i - 8 < 8 from by omega, show 8 + (i - 8) = i from by omega]
    · by_cases h3 : i < 24
      · simp [h1, h2, h3, show i - 16 < 8 from by omega, show 16 + (i - 16) = i from by omega]
      · simp [h1, h2, h3, show i - 24 < 8 from by omega, show 24 + (i - 24) = i from by omega]
/-- four bytes at once -/
theorem run_four_bytes (n : BitVec 32) (a b c d : BitVec 8) : run n [a, b, c, d] = sts 32 (n ^^^ un4 a b c d) := by
  have key : ∀ (m : BitVec 32) (x : BitVec 8) (h : BitVec 32), (∀ i, i < 8 → h.getLsbD i = false) → bst m x ^^^ (h >>> 8) = sts 8 (m ^^^ (x.setWidth 32 ^^^ h)) := by
    intro m x h hh
    unfold bst
    rw [← sts_even 8 hh, ← sts_xor, BitVec.xor_assoc]
  have e : un4 a b c d = a.setWidth 32 ^^^ (b.setWidth 32 <<< 8 ^^^ (c.setWidth 32 <<< 16 ^^^ d.setWidth 32 <<< 24)) := by
    apply BitVec.eq_of_getLsbD_eq
    intro i hi
    rw [un4_bit _ _ _ _ i hi]
    simp only [BitVec.getLsbD_xor, BitVec.getLsbD_setWidth, BitVec.getLsbD_shiftLeft, hi, decide_true, Bool.true_and]
    by_cases h1 : i < 8
    · simp [h1, show i < 16 from by omega, show i < 24 from by omega]
    · by_cases h2 : i < 16
      · simp [h1, h2, show i < 24 from by omega, BitVec.getLsbD_of_ge a i (by omega), show i - 8 < 32 from by omega]
      · by_cases h3 : i < 24
        · simp [h1, h2, h3, BitVec.getLsbD_of_ge a i (by omega), BitVec.getLsbD_of_ge b (i - 8) (by omega), show i - 16 < 32 from by omega]
        · simp [h1, h2, h3, BitVec.getLsbD_of_ge a i (by omega), BitVec.getLsbD_of_ge b (i - 8) (by omega), BitVec.getLsbD_of_ge c (i - 16) (by omega), show i - 24 < 32 from by omega]
  have low : ∀ (y : BitVec 8) (k i : Nat), i < 8 → (y.setWidth 32 <<< (k + 8)).getLsbD i = false := by
    intro y k i hi
    rw [BitVec.getLsbD_shiftLeft]
    simp [show i < k + 8 from by omega]
  have shr : ∀ (y : BitVec 8) (k : Nat), k + 16 ≤ 32 → (y.setWidth 32 <<< (k + 8)) >>> 8 = y.setWidth 32 <<< k := by
    intro y k hk
    apply BitVec.eq_of_getLsbD_eq
    intro i hi
    rw [BitVec.getLsbD_ushiftRight, BitVec.getLsbD_shiftLeft, BitVec.getLsbD_shiftLeft]
    by_cases h : i < k
    · simp [h, show 8 + i < k + 8 from by omega]
    · rw [show 8 + i - (k + 8) = i - k from by omega]
      by_cases h2 : 8 + i < 32
      · simp [h, h2, hi, show ¬ 8 + i < k + 8 from by omega]
      · rw [BitVec.getLsbD_setWidth, BitVec.getLsbD_of_ge y (i - k) (by omega)]
        simp
  have lowx : ∀ (p q : BitVec 32), (∀ i, i < 8 → p.getLsbD i = false) → (∀ i, i < 8 → q.getLsbD i = false) → ∀ i, i < 8 → (p ^^^ q).getLsbD i = false := by
    intro p q hp hq i hi
    rw [BitVec.getLsbD_xor, hp i hi, hq i hi]; rfl
  have shx : ∀ (p q : BitVec 32), (p ^^^ q) >>> 8 = (p >>> 8) ^^^ (q >>> 8) := fun p q => by
    apply BitVec.eq_of_getLsbD_eq
    intro i hi
    simp only [BitVec.getLsbD_ushiftRight, BitVec.getLsbD_xor]
  show run n [a, b, c, d] = sts (8 + (8 + (8 + 8))) _
  rw [sts_add, sts_add, sts_add, e]
  rw [← key n a _ (lowx _ _ (low b 0) (lowx _ _ (low c 8) (low d 16)))]
  rw [shx, shx, shr b 0 (by omega), shr c 8 (by omega), shr d 16 (by omega), BitVec.shiftLeft_zero]
  rw [← key _ b _ (lowx _ _ (low c 0) (low d 8)), shx, shr c 0 (by omega), shr d 8 (by omega), BitVec.shiftLeft_zero]
  rw [← key _ c _ (low d 0), shr d 0 (by omega), BitVec.shiftLeft_zero]
  rfl
/-- what is sealed leaves one and the same behind -/
theorem sealed_iff (bs : List (BitVec 8)) (a b c d : BitVec 8) : crc bs = un4 a b c d ↔ run (BitVec.allOnes 32) (bs ++ [a, b, c, d]) = sts 32 (BitVec.allOnes 32) := by
  rw [run_append, run_four_bytes]
  unfold crc
  constructor
  · intro h
    rw [← h]
    congr 1
    generalize run (BitVec.allOnes 32) bs = r
    apply BitVec.eq_of_getLsbD_eq
    intro i hi
    simp only [BitVec.getLsbD_xor, BitVec.getLsbD_not, BitVec.getLsbD_allOnes, hi, decide_true, Bool.true_and]
    cases r.getLsbD i <;> rfl
  · intro h
    have h1 := sts_inj h
    generalize run (BitVec.allOnes 32) bs = r at h1 ⊢
    generalize un4 a b c d = u at h1 ⊢
    apply BitVec.eq_of_getLsbD_eq
    intro i hi
    have h2 := congrArg (fun x : BitVec 32 => x.getLsbD i) h1
    simp only [BitVec.getLsbD_xor, BitVec.getLsbD_not, BitVec.getLsbD_allOnes, hi, decide_true, Bool.true_and] at h2 ⊢
    cases hr : r.getLsbD i <;> cases hu : u.getLsbD i <;> simp [hr, hu] at h2 ⊢
/-- one bit is turned -/
theorem run_flip {k : Nat} (hk : k < 8) : ∀ (bs : List (BitVec 8)) (n : BitVec 32) (j : Nat) (x : BitVec 8), bs[j]? = some x → run n (bs.set j (x ^^^ (1#8 <<< k))) = run n bs ^^^ sts (8 * bs.length - (8 * j + k)) 1#32
  | [], n, j, x, h => by simp at h
  | y :: bs, n, 0, x, h => by
    simp only [List.getElem?_cons_zero, Option.some.injEq] at h
    subst h
    rw [List.set_cons_zero, run_cons, run_cons]
    have h1 := bst_xor n 0#32 y (1#8 <<< k)
    rw [BitVec.xor_zero] at h1
    have h2 : bst 0#32 (1#8 <<< k) = sts (8 - k) 1#32 := by
      have : ∀ k, k < 8 → bst 0#32 (1#8 <<< k) = sts (8 - k) 1#32 := by decide
      exact this k hk
    rw [h1, h2, run_xor, ← sts_add]
    congr 2
    simp
    omega
  | y :: bs, n, j + 1, x, h => by
    simp only [List.getElem?_cons_succ] at h
    have hj : j < bs.length := (List.getElem?_eq_some_iff.1 h).1
    rw [List.set_cons_succ, run_cons, run_cons, run_flip hk bs _ j x h]
    congr 2
    simp
    omega
end Go.Proofs.YtooebmpjmcmkoaaCrc
