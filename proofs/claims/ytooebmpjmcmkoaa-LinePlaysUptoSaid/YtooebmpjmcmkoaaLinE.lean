/-
  line: Tick, the document's.
-/
import Derived.Test.YtooebmpjmcmkoaaLinD
set_option maxRecDepth 100000
set_option linter.unusedVariables false
set_option linter.unusedSimpArgs false
namespace Go.Proofs.Ytooebmpjmcmkoaa.B
open Go Go.Proofs Go.Proofs.YtooebmpjmcmkoaaEng

def beN : Nat → Nat → List UInt8
  | 0, _ => []
  | s + 1, x => by8 (x / 2 ^ (8 * s)) :: beN s x
theorem beN_len : ∀ (s x : Nat), (beN s x).length = s
  | 0, _ => rfl
  | s + 1, x => by simp [beN, beN_len s x]
theorem beN4 (x : Nat) : beN 4 x = be4 x := by simp [beN, be4]
theorem beN2 (x : Nat) : beN 2 x = be2 x := by simp [beN, be2]
theorem number_ok {w : World} {base n c : Nat} {a : Option Addr} {bs : List UInt8} {x s : Nat} (ho : w.ownsRow base 5 1 (.slice a n c) n (vals bs)) (hs : s ≤ 4) (hl : n ≤ 1099511627776) (hb : base ≤ w.heap.size) :
    Calls Try.prog 37 #[.slice a n c, .int .u32 x, .int .i64 s] w (endW (fun v w' => ∃ a' c', v = .slice a' (n + s) c' ∧ w'.ownsRow base 5 1 (.slice a' (n + s) c') (n + s) (vals (bs ++ beN s x)) ∧ Chg (fun k => base ≤ k) w w') (fun _ _ => False)) := by
  refine F37_calls _ _ _ _ _ ?_
  delta F37
  refine ⟨fun st w' => ∃ (r n' c' : Nat) (a' : Option Addr) (done : List UInt8), st = (a', n', c', (r : Int) - 1) ∧ r ≤ s ∧ n' + r = n + s ∧ w'.ownsRow base 5 1 (.slice a' n' c') n' (vals (bs ++ done)) ∧ done ++ beN r x = beN s x ∧ Chg (fun k => base ≤ k) w w',
    fun st _ => (st.2.2.2 + 1).toNat, ⟨(a, n, c, (s : Int) - 1), ⟨rfl, ?_, trivial⟩, s, n, c, a, [], rfl, Nat.le_refl _, rfl, by simpa using ho, rfl, Chg.refl _ _⟩, ?_⟩
  · rw [i64w _ (by omega) (by omega)]
  rintro st w1 ⟨r, n1, c1, a1, done, rfl, hr, hn, ho1, hd, hc1⟩ _
  dsimp only
  cases r with
  | zero =>
    rw [if_neg (by simp)]
    have : n1 = n + s := by omega
    subst this
    refine ⟨_, _, rfl, ?_, hc1⟩
    simp only [beN, List.append_nil] at hd
    rw [← hd]
    exact ho1
  | succ r =>
    have e1 : ((r + 1 : Nat) : Int) - 1 = (r : Int) := by omega
    simp only [e1]
    rw [if_pos (by simp)]
    have e2 : IntKind.wrap .i64 (8 * (r : Int)) = ((8 * r : Nat) : Int) := by rw [i64w _ (by omega) (by omega)]; omega
    simp only [e2, Int.toNat_natCast]
    rw [Nat.min_eq_left (by omega)]
    refine ⟨by omega, ?_⟩
    have e : (w1.alloc (.cells #[.int .u8 (IntKind.wrap .u8 (Int.fdiv x (2 ^ (8 * r))))] 5)) = w1.alloc (.cells (vals [by8 (x / 2 ^ (8 * r))]).toArray 5) := by
      congr 2
      simp only [f8]; rfl
    rw [e]
    have hown : ∀ k, (Value.slice a1 n1 c1).ownBlock = some k → base ≤ k := fun k hk => (own_lt' ho1 hk).2
    refine bytes_append (n := n1) (base := base) (ns := [by8 (x / 2 ^ (8 * r))]) S.bT Try.underlying31 (own_of_chg ho1 (chg_alloc _ _ NoS) (fun _ _ h => h)) rfl (reads_lit (blk_alloc _ _)) (fun e => by cases e) (by omega) (by rw [size_alloc]; have := hc1.size; omega) ?_
    intro a2 c2 w2 ho2 hc2 hb2
    refine ⟨_, _, _, rfl, (a2, n1 + 1, c2, (r : Int) - 1), ⟨rfl, ?_, trivial⟩, ⟨r, n1 + 1, c2, a2, done ++ [by8 (x / 2 ^ (8 * r))], rfl, by omega, by omega, by rw [← List.append_assoc]; exact ho2, ?_, ?_⟩, by dsimp only; omega⟩
    · rw [i64w _ (by omega) (by omega)]
    · rw [← hd]; simp [beN]
    · exact hc1.trans ((chg_alloc w1 _ _).trans (hc2.mono fun k _ hk => hown k hk))

theorem body_mono (l : List (List UInt8)) {i j : Nat} (h : i ≤ j) : (body (l.take i)).length ≤ (body (l.take j)).length := by
  have e : l.take j = l.take i ++ (l.drop i).take (j - i) := by
    have := List.take_append_drop i (l.take j)
    rw [List.take_take, Nat.min_eq_left h, List.drop_take] at this
    exact this.symm
  rw [e]
  simp [body]
theorem rtick_tail {t : TypeId} {w : World} {X F : Nat → Prop} {p : Nat} {m : Lm} (h : EndAt t w X F p m) (hl : m.sent.length < 1099511627776) (hrl : ∀ l ∈ m.sent, l.length ≤ 8192) {s : Int × Int} (hs : Prod.fst s = (m.out : Int)) {R : Value → World → Prop} {E : PanW} (hR : ∀ v w', TickEnd w m v w' → R v w') :
    ∃ (S : Nat → Prop), wSome (some (⟨p, 0, none⟩ : Addr)) fun (A : Addr) => wSome (some (⟨p, 0, none⟩ : Addr)) fun (A_1 : Addr) => wSome (some (⟨p, 0, none⟩ : Addr)) fun (A_2 : Addr) => ¬S (Addr.block (addK A (0 : Nat))) ∧ ∃ (x : Int), World.cell? (World.drew w) (addK A (0 : Nat)) = Option.some (Value.int IntKind.u32 x) ∧ ¬S (Addr.block (addK A_1 (3 : Nat))) ∧ ∃ (x_1 : Int), World.cell? (World.drew w) (addK A_1 (3 : Nat)) = Option.some (Value.int IntKind.u32 x_1) ∧ ¬S (Addr.block (addK A_2 (2 : Nat))) ∧ ∃ (x_2 : Int), World.cell? (World.drew w) (addK A_2 (2 : Nat)) = Option.some (Value.int IntKind.u32 x_2) ∧ Calls Try.prog (37 : Nat) #[Value.slice Option.none (0 : Nat) (0 : Nat), Value.int IntKind.u32 x, Value.int IntKind.i64 (4 : Int)] (World.drew w) (endW (fun (v : Value) (w' : World) => ∃ (a : Option Addr), ∃ (n : Nat), ∃ (c : Nat), v = Value.slice a n c ∧ Kept S (World.drew w) w' ∧ Calls Try.prog (37 : Nat) #[Value.slice a n c, Value.int IntKind.u32 x_1, Value.int IntKind.i64 (4 : Int)] w' (endW (fun (v : Value) (w' : World) => ∃ (a : Option Addr), ∃ (n : Nat), ∃ (c : Nat), v = Value.slice a n c ∧ Kept S (World.drew w) w' ∧ Calls Try.prog (37 : Nat) #[Value.slice a n c, Value.int IntKind.u32 x_2, Value.int IntKind.i64 (4 : Int)] w' (endW (fun (v : Value) (w' : World) => ∃ (a : Option Addr), ∃ (n : Nat), ∃ (c : Nat), v = Value.slice a n c ∧ Calls Try.prog (37 : Nat) #[Value.slice a n c, Value.int IntKind.u32 (IntKind.wrap IntKind.u32 (Prod.fst s)), Value.int IntKind.i64 (2 : Int)] w' (endW (fun (v : Value) (w' : World) => ∃ (a : Option Addr), ∃ (n : Nat), ∃ (c : Nat), v = Value.slice a n c ∧ ∃ (I : ((Option Addr) × Nat × Nat × Int) → World → Prop), ∃ (μ : ((Option Addr) × Nat × Nat × Int) → World → Nat), (∃ (s : ((Option Addr) × Nat × Nat × Int)), (Value.slice (Prod.fst s) (Prod.fst (Prod.snd s)) (Prod.fst (Prod.snd (Prod.snd s))) = Value.slice a n c ∧ Value.int IntKind.i64 (Prod.snd (Prod.snd (Prod.snd s))) = Value.int IntKind.i64 (0 : Int) ∧ True) ∧ I s w') ∧ ∀ (s_1 : ((Option Addr) × Nat × Nat × Int)) (w : World), I s_1 w → ∀ (junk : Env), if Decidable.decide (Prod.snd (Prod.snd (Prod.snd s_1)) < Prod.fst s) = Bool.true then wSome (some (⟨p, 0, none⟩ : Addr)) fun (A : Addr) => ∃ (a : Option Addr), ∃ (n : Nat), ∃ (c : Nat), World.cell? w (addK A (1 : Nat)) = Option.some (Value.slice a n c) ∧ (0 : Int) ≤ Prod.snd (Prod.snd (Prod.snd s_1)) ∧ Prod.snd (Prod.snd (Prod.snd s_1)) < (↑n : Int) ∧ wSome a fun (A : Addr) => ∃ (a : Option Addr), ∃ (n : Nat), ∃ (c : Nat), World.cell? w (addK A (Int.toNat (Prod.snd (Prod.snd (Prod.snd s_1))) * (1 : Nat))) = Option.some (Value.slice a n c) ∧ Calls Try.prog (37 : Nat) #[Value.slice (Prod.fst s_1) (Prod.fst (Prod.snd s_1)) (Prod.fst (Prod.snd (Prod.snd s_1))), Value.int IntKind.u32 (IntKind.wrap IntKind.u32 (↑n : Int)), Value.int IntKind.i64 (2 : Int)] w (endW (fun (v : Value) (w' : World) => ∃ (a : Option Addr), ∃ (n : Nat), ∃ (c : Nat), v = Value.slice a n c ∧ wSome (some (⟨p, 0, none⟩ : Addr)) fun (A : Addr) => ∃ (a_1 : Option Addr), ∃ (n_1 : Nat), ∃ (c_1 : Nat), World.cell? w' (addK A (1 : Nat)) = Option.some (Value.slice a_1 n_1 c_1) ∧ (0 : Int) ≤ Prod.snd (Prod.snd (Prod.snd s_1)) ∧ Prod.snd (Prod.snd (Prod.snd s_1)) < (↑n_1 : Int) ∧ wSome a_1 fun (A : Addr) => ∃ (a_2 : Option Addr), ∃ (n_2 : Nat), ∃ (c_2 : Nat), World.cell? w' (addK A (Int.toNat (Prod.snd (Prod.snd (Prod.snd s_1))) * (1 : Nat))) = Option.some (Value.slice a_2 n_2 c_2) ∧ runV Try.prog (Builtin.append_ #[(31 : Nat), (31 : Nat)] (31 : Nat) #[Value.slice a n c, Value.slice a_2 n_2 c_2]) w' (fun (v : Value) (w_1 : World) => ∃ (a : Option Addr), ∃ (n : Nat), ∃ (c : Nat), v = Value.slice a n c ∧ ∃ (s' : ((Option Addr) × Nat × Nat × Int)), (Value.slice (Prod.fst s') (Prod.fst (Prod.snd s')) (Prod.fst (Prod.snd (Prod.snd s'))) = Value.slice a n c ∧ Value.int IntKind.i64 (Prod.snd (Prod.snd (Prod.snd s'))) = Value.int IntKind.i64 (IntKind.wrap IntKind.i64 (Prod.snd (Prod.snd (Prod.snd s_1)) + (1 : Int))) ∧ True) ∧ I s' w_1 ∧ μ s' w_1 < μ s_1 w) fun (c : List PanicEntry) (w : World) => E c w) fun (c : List PanicEntry) (w : World) => E c w) else Calls Try.prog (38 : Nat) #[Value.slice (Prod.fst s_1) (Prod.fst (Prod.snd s_1)) (Prod.fst (Prod.snd (Prod.snd s_1)))] w (endW (fun (v : Value) (w' : World) => ∃ (vs : List Value), v = Value.tuple (List.toArray vs) ∧ ∃ (v : Value), ∃ (rest : List Value), vs = v :: rest ∧ ∃ (a : Option Addr), ∃ (n : Nat), ∃ (c : Nat), v = Value.slice a n c ∧ ∃ (v : Value), ∃ (rest_1 : List Value), rest = v :: rest_1 ∧ ∃ (x : Int), v = Value.int IntKind.i64 x ∧ rest_1 = [] ∧ R (Value.slice (Option.some { block := Array.size (World.heap w'), off := (0 : Nat) }) (1 : Nat) (1 : Nat)) (World.alloc w' (Obj.cells #[Value.slice a n c] (31 : Nat)))) fun (c : List PanicEntry) (w : World) => E c w)) fun (c : List PanicEntry) (w : World) => E c w)) fun (c : List PanicEntry) (w : World) => E c w)) fun (c : List PanicEntry) (w : World) => E c w)) fun (c : List PanicEntry) (w : World) => E c w) := by
  obtain ⟨sv, fv, vs, us, h⟩ := h
  obtain ⟨av, cv, rfl⟩ := h.len
  have h0 := h.chg (chg_drew w NoS) fun k _ h => h.elim
  obtain ⟨e0, e1, e2, e3, e4⟩ := ecell h0
  have hfit := fit_le m.sent 32 0 (Nat.zero_le _)
  have hfs := fit_size m.sent 32 0 (by simp [body])
  change _ ≤ m.out ∧ m.out ≤ _ ∧ m.out ≤ _ at hfit
  change 14 + (body (m.sent.take m.out)).length ≤ _ at hfs
  refine ⟨fun _ => False, wSome_of rfl (wSome_of rfl (wSome_of rfl ?_))⟩
  simp only [addK_lit]
  refine ⟨fun h => h, _, e0, fun h => h, _, e3, fun h => h, _, e2, ?_⟩
  refine Calls.then (number_ok (s := 4) (bs := []) (base := w.heap.size) (own_nil' _ _ _ _) (by omega) (by omega) (Nat.le_refl _)) ?_
  rintro v w2 ⟨a2, c2, rfl, ho2, hc2⟩
  have hc2 : Chg NoS w w2 := (chg_drew w NoS).trans2 hc2 fun k hk e => by omega
  refine ⟨_, _, _, rfl, kept_drew hc2, ?_⟩
  refine Calls.then (number_ok (s := 4) ho2 (by omega) (by omega) hc2.size) ?_
  rintro v w3 ⟨a3, c3, rfl, ho3, hc3⟩
  have hc3 : Chg NoS w w3 := hc2.trans2 hc3 fun k hk e => by omega
  refine ⟨_, _, _, rfl, kept_drew hc3, ?_⟩
  refine Calls.then (number_ok (s := 4) ho3 (by omega) (by omega) hc3.size) ?_
  rintro v w4 ⟨a4, c4, rfl, ho4, hc4⟩
  have hc4 : Chg NoS w w4 := hc3.trans2 hc4 fun k hk e => by omega
  refine ⟨_, _, _, rfl, ?_⟩
  rw [hs]
  have hw32 : IntKind.wrap .u32 (m.out : Int) = (m.out : Int) := IntWalk.u32_in _ (by omega)
  rw [hw32]
  refine Calls.then (number_ok (s := 2) ho4 (by omega) (by omega) hc4.size) ?_
  rintro v w5 ⟨a5, c5, rfl, ho5, hc5⟩
  have hc5 : Chg NoS w w5 := hc4.trans2 hc5 fun k hk e => by omega
  refine ⟨_, _, _, rfl, ?_⟩
  simp only [List.nil_append, beN4, beN2] at ho5
  refine ⟨fun st w' => ∃ (i n c : Nat) (a : Option Addr), st = (a, n, c, (i : Int)) ∧ i ≤ m.out ∧ n = 14 + (body (m.sent.take i)).length ∧ w'.ownsRow w.heap.size 5 1 (.slice a n c) n (vals (be4 m.ep ++ be4 m.come ++ be4 m.got ++ be2 m.out ++ body (m.sent.take i))) ∧ Chg NoS w w',
    fun st _ => (32 - st.2.2.2).toNat, ⟨(a5, 0 + 4 + 4 + 4 + 2, c5, 0), ⟨rfl, rfl, trivial⟩, 0, _, _, _, rfl, by omega, by simp [body], by simpa [body] using ho5, hc5⟩, ?_⟩
  rintro st w6 ⟨i, n, c, a, rfl, hi, hn, ho6, hc6⟩ _
  dsimp only
  have hmono : n ≤ 20000 := by
    have := body_mono m.sent hi
    omega
  by_cases hlt : i < m.out
  · rw [if_pos (by simp; omega)]
    have h6 := h.chg hc6 fun k _ h => h.elim
    have hil : i < m.sent.length := by omega
    have hlen8 := hrl _ (List.getElem_mem hil)
    obtain ⟨v, hv, hrow⟩ := h.si.get (List.getElem?_eq_getElem hil)
    obtain ⟨A, rfl, hcell⟩ := h6.so.reads i _ hv
    obtain ⟨bv, bc, rfl, _⟩ := id hrow
    obtain ⟨hbr, -, hbc, hb0⟩ := RowIn.rd hrow
    refine wSome_of rfl ⟨_, _, _, by rw [addK_lit]; exact (ecell h6).2.1, by omega, by omega, wSome_of rfl ⟨_, _, _, by rw [Nat.mul_one]; exact hcell, ?_⟩⟩
    have hw : IntKind.wrap .u32 (m.sent[i].length : Int) = (m.sent[i].length : Int) := IntWalk.u32_in _ (by omega)
    rw [hw]
    refine Calls.then (number_ok (s := 2) ho6 (by omega) (by omega) hc6.size) ?_
    rintro v w7 ⟨a7, c7, rfl, ho7, hc7⟩
    have hc67 : Chg NoS w w7 := hc6.trans2 hc7 fun k hk e => by omega
    have h7 := h.chg hc67 fun k _ h => h.elim
    obtain ⟨A', e, hcell7⟩ := h7.so.reads i _ hv
    cases e
    refine ⟨_, _, _, rfl, wSome_of rfl ⟨_, _, _, by rw [addK_lit]; exact (ecell h7).2.1, by omega, by omega, wSome_of rfl ⟨_, _, _, by rw [Nat.mul_one]; exact hcell7, ?_⟩⟩⟩
    refine bytes_append (n := n + 2) (base := w.heap.size) (c := bc) S.bT Try.underlying31 ho7 rfl (RowIn.rd (RowIn.chg hrow hc67 fun k _ h => h.elim)).1 hb0 (by omega) hc67.size ?_
    intro a8 c8 w8 ho8 hc8 hb8
    have htk : body (m.sent.take (i + 1)) = (body (m.sent.take i) ++ be2 m.sent[i].length) ++ m.sent[i] := by rw [← List.take_append_getElem hil, body_snoc]
    refine ⟨_, _, _, rfl, (a8, n + 2 + m.sent[i].length, c8, ((i + 1 : Nat) : Int)), ⟨rfl, ?_, trivial⟩, ⟨i + 1, _, _, _, rfl, by omega, ?_, ?_, hc67.trans2 hc8 fun k hk e => by have := (own_lt' ho7 e).2; omega⟩, by dsimp only; omega⟩
    · rw [i64w _ (by omega) (by omega)]; rfl
    · rw [htk, hn]; simp [be2]; omega
    · rw [htk, beN2] at *
      simpa [List.append_assoc] using ho8
  · rw [if_neg (by simp; omega)]
    have : i = m.out := by omega
    subst this
    exact seal_end hc6 ho6 hR 38 S.rSeal_ok

theorem rTick_ok {t : TypeId} {w : World} {X F : Nat → Prop} {p : Nat} {m : Lm} (h : EndAt t w X F p m) (hl : m.sent.length < 1099511627776) (hrl : ∀ l ∈ m.sent, l.length ≤ 8192) :
    Calls Try.prog 28 #[.pointer (some ⟨p, 0, none⟩)] w (endW (TickEnd w m) (fun _ _ => False)) := by
  refine F28_calls _ ?_
  delta F28
  have hA := h
  obtain ⟨sv, fv, vs, us, h⟩ := h
  obtain ⟨av, cv, rfl⟩ := h.len
  refine ⟨fun s w' => w' = w ∧ ∃ i : Nat, s = ((i : Int), ((14 + (body (m.sent.take i)).length : Nat) : Int)) ∧ i ≤ 32 ∧ i ≤ m.sent.length ∧ 14 + (body (m.sent.take i)).length ≤ 16384 ∧ fitFrom m.sent (32 - i) i = m.out,
    fun s _ => (32 - s.1).toNat, ⟨(0, 14), ⟨rfl, rfl, trivial⟩, rfl, 0, rfl, by omega, by omega, by simp [body], rfl⟩, ?_⟩
  rintro s w1 ⟨rfl, i, rfl, hi, hil, hsz, hfit⟩ _
  dsimp only
  refine wSome_of rfl ⟨_, _, _, by rw [addK_lit]; exact (ecell h).2.1, ?_⟩
  by_cases h1 : i < m.sent.length
  · rw [if_pos (by simp; omega)]
    by_cases h2 : i < 32
    · rw [if_pos (by simp; omega)]
      have hlen8 := hrl _ (List.getElem_mem h1)
      obtain ⟨A, bv, bc, e, hcell, hbc, hb0, hbr⟩ := h.row (List.getElem?_eq_getElem h1)
      subst e
      refine wSome_of rfl ⟨_, _, _, by rw [addK_lit]; exact (ecell h).2.1, by omega, by omega, wSome_of rfl ⟨_, _, _, by rw [Nat.mul_one]; exact hcell, ?_⟩⟩
      have hw : IntKind.wrap .i64 (IntKind.wrap .i64 (((14 + (body (m.sent.take i)).length : Nat) : Int) + 2) + (m.sent[i].length : Int)) = ((16 + (body (m.sent.take i)).length + m.sent[i].length : Nat) : Int) := by
        rw [i64w (((14 + (body (m.sent.take i)).length : Nat) : Int) + 2) (by omega) (by omega), i64w _ (by omega) (by omega)]
        omega
      rw [hw]
      obtain ⟨f, hf⟩ : ∃ f, 32 - i = f + 1 := ⟨31 - i, by omega⟩
      rw [hf] at hfit
      unfold fitFrom at hfit
      rw [dif_pos h1] at hfit
      have htk : body (m.sent.take (i + 1)) = (body (m.sent.take i) ++ be2 m.sent[i].length) ++ m.sent[i] := by rw [← List.take_append_getElem h1, body_snoc]
      by_cases h3 : 16 + (body (m.sent.take i)).length + m.sent[i].length ≤ 16384
      · rw [if_pos (by simp; omega)]
        rw [if_pos h3] at hfit
        refine wSome_of rfl ⟨_, _, _, by rw [addK_lit]; exact (ecell h).2.1, by omega, by omega, wSome_of rfl ⟨_, _, _, by rw [Nat.mul_one]; exact hcell, ?_⟩⟩
        have hl1 : (body (m.sent.take (i + 1))).length = (body (m.sent.take i)).length + 2 + m.sent[i].length := by rw [htk]; simp [be2]; omega
        refine ⟨(((i + 1 : Nat) : Int), ((14 + (body (m.sent.take (i + 1))).length : Nat) : Int)), ⟨?_, ?_, trivial⟩, ⟨rfl, i + 1, rfl, by omega, by omega, by omega, ?_⟩, by dsimp only; omega⟩
        · rw [i64w _ (by omega) (by omega)]; rfl
        · rw [hl1]; congr 1; omega
        · rw [show 32 - (i + 1) = f from by omega]; exact hfit
      · rw [if_neg (by simp; omega)]
        rw [if_neg h3] at hfit
        exact rtick_tail hA hl hrl (s := ((i : Int), _)) (by dsimp only; rw [hfit]) fun v w' h => h
    · rw [if_neg (by simp; omega)]
      have : i = 32 := by omega
      subst this
      exact rtick_tail hA hl hrl (s := (((32 : Nat) : Int), _)) (by dsimp only; rw [← hfit]; rfl) fun v w' h => h
  · rw [if_neg (by simp; omega)]
    have hout : i = m.out := by
      rw [← hfit]
      by_cases h32 : i = 32
      · subst h32; rfl
      · obtain ⟨f, hf⟩ : ∃ f, 32 - i = f + 1 := ⟨31 - i, by omega⟩
        rw [hf]
        unfold fitFrom
        rw [dif_neg (by omega)]
    exact rtick_tail hA hl hrl (s := ((i : Int), _)) (by dsimp only; rw [← hout]) fun v w' h => h
end Go.Proofs.Ytooebmpjmcmkoaa.B
