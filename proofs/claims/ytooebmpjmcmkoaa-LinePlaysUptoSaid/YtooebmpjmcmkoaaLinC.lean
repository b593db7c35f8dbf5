/-
  line: numbers as bytes; Tick.
-/
import Derived.Test.YtooebmpjmcmkoaaLinB
set_option maxRecDepth 100000
set_option linter.unusedVariables false
set_option linter.unusedSimpArgs false
namespace Go.Proofs.Ytooebmpjmcmkoaa.B
open Go Go.Proofs Go.Proofs.YtooebmpjmcmkoaaEng

def by8 (n : Nat) : UInt8 := UInt8.ofNat n
def be2 (n : Nat) : List UInt8 := [by8 (n / 2 ^ 8), by8 n]
def be4 (n : Nat) : List UInt8 := [by8 (n / 2 ^ 24), by8 (n / 2 ^ 16), by8 (n / 2 ^ 8), by8 n]
theorem w8 (n : Nat) : IntKind.wrap .u8 (n : Int) = ((by8 n).toNat : Int) := by
  rw [IntKind.wrap_u8]; simp [by8]
theorem f8 (n k : Nat) : IntKind.wrap .u8 (Int.fdiv (n : Int) (2 ^ k)) = ((by8 (n / 2 ^ k)).toNat : Int) := by
  rw [← w8]
  congr 1
  rw [Int.fdiv_eq_ediv_of_nonneg _ (by have := Int.pow_pos (n := (2:Int)) (m := k) (by omega); omega)]
  simp
theorem four_ok {w : World} {base n c : Nat} {a : Option Addr} {bs : List UInt8} {x : Nat} (ho : w.ownsRow base 5 1 (.slice a n c) n (vals bs)) (hl : n ≤ 1099511627776) (hb : base ≤ w.heap.size) :
    Calls Try.prog 34 #[.slice a n c, .int .u32 x] w (endW (fun v w' => ∃ a' c', v = .slice a' (n + 4) c' ∧ w'.ownsRow base 5 1 (.slice a' (n + 4) c') (n + 4) (vals (bs ++ be4 x)) ∧ Chg (fun k => base ≤ k) w w') (fun _ _ => False)) := by
  refine F34_calls _ _ _ _ ?_
  delta F34
  refine ⟨by omega, by omega, by omega, ?_⟩
  have e : #[Value.int .u8 (IntKind.wrap .u8 (Int.fdiv x (2 ^ 24))), .int .u8 (IntKind.wrap .u8 (Int.fdiv x (2 ^ 16))), .int .u8 (IntKind.wrap .u8 (Int.fdiv x (2 ^ 8))), .int .u8 (IntKind.wrap .u8 x)] = (vals (be4 x)).toArray := by
    simp only [f8, w8]; rfl
  rw [e]
  have hown : ∀ k, (Value.slice a n c).ownBlock = some k → base ≤ k := fun k hk => (own_lt' ho hk).2
  refine bytes_append (n := n) (base := base) (ns := be4 x) S.bT Try.underlying31 (own_of_chg ho (chg_alloc _ _ NoS) (fun _ _ h => h)) rfl (reads_lit (blk_alloc _ _)) (fun e => by cases e) (by omega) (by rw [size_alloc]; omega) ?_
  intro a' c' w' ho' hc' hb'
  refine ⟨_, _, _, rfl, _, _, rfl, ho', ?_⟩
  exact (chg_alloc w _ _).trans (hc'.mono fun k _ hk => hown k hk)

theorem two_lit (w : World) (x : Nat) : (w.alloc (.cells #[.int .u8 (IntKind.wrap .u8 (Int.fdiv x (2 ^ 8))), .int .u8 (IntKind.wrap .u8 x)] 5)) = w.alloc (.cells (vals (be2 x)).toArray 5) := by
  congr 2
  simp only [f8, w8]; rfl
theorem two_ok {w : World} {base n c : Nat} {a : Option Addr} {bs : List UInt8} {x : Nat} (ho : w.ownsRow base 5 1 (.slice a n c) n (vals bs)) (hl : n ≤ 1099511627776) (hb : base ≤ w.heap.size) :
    Calls Try.prog 35 #[.slice a n c, .int .i64 x] w (endW (fun v w' => ∃ a' c', v = .slice a' (n + 2) c' ∧ w'.ownsRow base 5 1 (.slice a' (n + 2) c') (n + 2) (vals (bs ++ be2 x)) ∧ Chg (fun k => base ≤ k) w w') (fun _ _ => False)) := by
  refine F35_calls _ _ _ _ ?_
  delta F35
  refine ⟨by omega, ?_⟩
  rw [two_lit]
  have hown : ∀ k, (Value.slice a n c).ownBlock = some k → base ≤ k := fun k hk => (own_lt' ho hk).2
  refine bytes_append (n := n) (base := base) (ns := be2 x) S.bT Try.underlying31 (own_of_chg ho (chg_alloc _ _ NoS) (fun _ _ h => h)) rfl (reads_lit (blk_alloc _ _)) (fun e => by cases e) (by omega) (by rw [size_alloc]; omega) ?_
  intro a' c' w' ho' hc' hb'
  refine ⟨_, _, _, rfl, _, _, rfl, ho', ?_⟩
  exact (chg_alloc w _ _).trans (hc'.mono fun k _ hk => hown k hk)
/-- behind a slice without room -/
theorem two_full {w : World} {base n : Nat} {A : Addr} {bs : List UInt8} {x : Nat} (hr : Reads w (some A) (vals bs)) (hn : bs.length = n) (hl : n ≤ 1099511627776) (hb : base ≤ w.heap.size) :
    Calls Try.prog 35 #[.slice (some A) n n, .int .i64 x] w (endW (fun v w' => ∃ a' c', v = .slice a' (n + 2) c' ∧ w'.ownsRow base 5 1 (.slice a' (n + 2) c') (n + 2) (vals (bs ++ be2 x)) ∧ Chg NoS w w') (fun _ _ => False)) := by
  refine F35_calls _ _ _ _ ?_
  delta F35
  refine ⟨by omega, ?_⟩
  rw [two_lit]
  refine full_append (base := base) (m := 2) (news := vals (be2 x)) S.bT.und Try.underlying31 S.bT.info rfl (hr.chg (chg_alloc w _ NoS) (fun _ _ h => h)) (by rw [vals_length]; exact hn) rfl (reads_lit (blk_alloc _ _)) (by omega) (by simp) (vals_one _) (by omega) (by omega) (by rw [size_alloc]; omega) ?_
  intro a' c' w' ho' hc' hb'
  refine ⟨_, _, _, rfl, _, _, rfl, ?_, ?_⟩
  · rw [vals_append]; exact ho'
  · exact (chg_alloc w _ _).trans hc'

def body (l : List (List UInt8)) : List UInt8 := l.flatMap fun m => be2 m.length ++ m
theorem body_snoc (l : List (List UInt8)) (m : List UInt8) : body (l ++ [m]) = (body l ++ be2 m.length) ++ m := by simp [body]
def fitFrom (l : List (List UInt8)) : Nat → Nat → Nat
  | 0, i => i
  | f + 1, i => if h : i < l.length then (if 16 + (body (l.take i)).length + l[i].length ≤ 16384 then fitFrom l f (i + 1) else i) else i
def Lm.out (m : Lm) : Nat := fitFrom m.sent 32 0
def Lm.payload (m : Lm) : List UInt8 := be4 m.ep ++ be4 m.come ++ be4 m.got ++ be2 m.out ++ body (m.sent.take m.out)
theorem fit_le (l : List (List UInt8)) : ∀ (f i : Nat), i ≤ l.length → i ≤ fitFrom l f i ∧ fitFrom l f i ≤ i + f ∧ fitFrom l f i ≤ l.length
  | 0, i, h => ⟨Nat.le_refl _, Nat.le_refl _, h⟩
  | f + 1, i, h => by
    unfold fitFrom
    split
    · split
      · have := fit_le l f (i + 1) (by omega)
        omega
      · omega
    · omega
theorem fit_size (l : List (List UInt8)) : ∀ (f i : Nat), 14 + (body (l.take i)).length ≤ 16384 → 14 + (body (l.take (fitFrom l f i))).length ≤ 16384
  | 0, i, h => h
  | f + 1, i, h => by
    unfold fitFrom
    split
    · rename_i hi
      split
      · refine fit_size l f (i + 1) ?_
        have : l.take (i + 1) = l.take i ++ [l[i]] := by rw [List.take_append_getElem hi]
        rw [this, body_snoc]
        simp [be2]
        omega
      · exact h
    · exact h
theorem payload_len (m : Lm) : m.payload.length = 14 + (body (m.sent.take m.out)).length ∧ m.payload.length ≤ 16384 := by
  have h := fit_size m.sent 32 0 (by simp [body])
  have : m.payload.length = 14 + (body (m.sent.take m.out)).length := by simp [Lm.payload, be4, be2]; omega
  refine ⟨this, ?_⟩
  rw [this]
  exact h
theorem min_run {x : Nat} {w : World} {K : Value → World → Prop} {E : PanW} (hx : x ≤ 9223372036854775807) (hK : K (.int .i64 (min x 32 : Nat)) w) : runV Try.prog (Builtin.min_ #[3, 3] 3 #[.int .i64 (x : Int), .int .i64 32]) w K E := by
  have hrun : (Builtin.min_ #[3, 3] 3 #[.int .i64 (x : Int), .int .i64 32]).run Try.prog w = .ok (.int .i64 (min x 32 : Nat)) w := by
    have h1 : (Builtin.min_ #[3, 3] 3 #[.int .i64 (x : Int), .int .i64 32]).run Try.prog w = .ok (.int .i64 (if (32 : Int) < x then 32 else x)) w := rfl
    rw [h1]
    congr 2
    split <;> omega
  unfold runV
  rw [hrun]
  exact hK
theorem kept_of {w w' : World} {S : Nat → Prop} (h : Chg NoS w w') : Kept S w w' := ⟨h.size, fun b hb _ => h.block b hb fun x => x⟩
/-- What Tick answers: one datagram, new. -/
def TickEnd (w : World) (m : Lm) (v : Value) (w' : World) : Prop := ∃ b rv, v = .slice (some ⟨b, 0, none⟩) 1 1 ∧ w.heap.size ≤ b ∧ w'.heap[b]? = some (.cells #[rv] 31 (0, 0)) ∧ Chg NoS w w' ∧
  ∀ X : Nat → Prop, (∀ k, w.heap.size ≤ k → ¬ X k) → RowIn w' X rv (S.sealed m.payload)
/-- a payload is sealed, and put alone into a list -/
theorem seal_end {w w1 : World} {n c : Nat} {a : Option Addr} {m : Lm} {R : Value → World → Prop} {E : PanW} (hc : Chg NoS w w1) (ho : w1.ownsRow w.heap.size 5 1 (.slice a n c) n (vals m.payload)) (hR : ∀ v w', TickEnd w m v w' → R v w') (k : Nat)
    (hk : ∀ {w : World} {a : Option Addr} {n c : Nat} {bs : List UInt8} (hn : bs.length = n) (hr : Reads w a (vals bs)) (h0 : a = none → n = 0) (hl : n ≤ 16384),
      Calls Try.prog k #[.slice a n c] w (endW (fun v w' => ∃ a' c', v = .tuple #[.slice a' (n + 4) c', .int .i64 0] ∧ S.Out w w' a' (n + 4) c' (S.sealed bs) ∧ Chg NoS w w') (fun _ _ => False))) :
    Calls Try.prog k #[.slice a n c] w1 (endW (fun (v : Value) (w' : World) => ∃ (vs : List Value), v = Value.tuple (List.toArray vs) ∧ ∃ (v : Value), ∃ (rest : List Value), vs = v :: rest ∧ ∃ (a : Option Addr), ∃ (n : Nat), ∃ (c : Nat), v = Value.slice a n c ∧ ∃ (v : Value), ∃ (rest_1 : List Value), rest = v :: rest_1 ∧ ∃ (x : Int), v = Value.int IntKind.i64 x ∧ rest_1 = [] ∧ R (Value.slice (Option.some { block := Array.size (World.heap w'), off := (0 : Nat) }) (1 : Nat) (1 : Nat)) (World.alloc w' (.cells #[.slice a n c] 31))) E) := by
  obtain ⟨h1, h2, h3, h4, h5⟩ := own_reads_v ho
  have hp := (payload_len m).2
  refine Calls.then (hk h2 h1 h3 (by omega)) ?_
  rintro v w2 ⟨a', c', rfl, ho2, hc2⟩
  refine ⟨_, rfl, _, _, rfl, _, _, _, rfl, _, _, rfl, _, rfl, rfl, ?_⟩
  refine hR _ _ ⟨_, _, rfl, by have := hc.size; have := hc2.size; omega, blk_alloc _ _, (hc.trans hc2).trans (chg_alloc _ _ _), fun X hX => ?_⟩
  exact (row_out (X := X) ho2 fun k hk => hX k (by have := hc.size; omega)).2.chg (chg_alloc _ _ NoS) fun k _ h => h.elim
/-- the end of Tick: head, number, tail, seal -/
theorem tick_end {w w1 : World} {A : Addr} {hd tl : List UInt8} {x n c : Nat} {a : Option Addr} {m : Lm} {R : Value → World → Prop} {E : PanW} (hc : Chg NoS w w1) (hr : Reads w1 (some A) (vals hd)) (hn : hd.length = 12) (ht : w1.ownsRow w.heap.size 5 1 (.slice a n c) n (vals tl)) (hl : 14 + tl.length ≤ 16384) (hp : m.payload = hd ++ be2 x ++ tl) (hR : ∀ v w', TickEnd w m v w' → R v w') :
    Calls Try.prog 35 #[.slice (some A) 12 12, .int .i64 x] w1 (endW (fun v w' => ∃ a1 n1 c1, v = .slice a1 n1 c1 ∧
      runV Try.prog (Builtin.append_ #[31, 31] 31 #[.slice a1 n1 c1, .slice a n c]) w' (fun v w => ∃ a n c, v = .slice a n c ∧
        Calls Try.prog 36 #[.slice a n c] w (endW (fun (v : Value) (w' : World) => ∃ (vs : List Value), v = Value.tuple (List.toArray vs) ∧ ∃ (v : Value), ∃ (rest : List Value), vs = v :: rest ∧ ∃ (a : Option Addr), ∃ (n : Nat), ∃ (c : Nat), v = Value.slice a n c ∧ ∃ (v : Value), ∃ (rest_1 : List Value), rest = v :: rest_1 ∧ ∃ (x : Int), v = Value.int IntKind.i64 x ∧ rest_1 = [] ∧ R (Value.slice (Option.some { block := Array.size (World.heap w'), off := (0 : Nat) }) (1 : Nat) (1 : Nat)) (World.alloc w' (.cells #[.slice a n c] 31))) E)) E) E) := by
  have hz := hc.size
  refine Calls.then (two_full (base := w1.heap.size) (x := x) hr hn (by omega) (Nat.le_refl _)) ?_
  rintro v w2 ⟨a2, c2, rfl, ho2, hc2⟩
  refine ⟨_, _, _, rfl, ?_⟩
  obtain ⟨h1, h2, h3, h4, h5⟩ := own_reads_v ht
  refine bytes_append (n := 12 + 2) (base := w1.heap.size) (c := c) S.bT Try.underlying31 ho2 h2 (h1.chg hc2 fun _ _ h => h) h3 (by omega) hc2.size ?_
  intro a3 c3 w3 ho3 hc3 hb3
  refine ⟨_, _, _, rfl, ?_⟩
  have hc3' : Chg NoS w1 w3 := hc2.trans2 hc3 fun k hk e => by have := (own_lt' ho2 e).2; omega
  refine seal_end (hc.trans hc3') ?_ hR 36 S.Seal_ok
  rw [hp]
  exact own_base' ho3 fun k hk => by have := (own_lt' ho3 hk).2; omega
end Go.Proofs.Ytooebmpjmcmkoaa.B
