/-
  crc: the walks of Open, the program's and the document's.
-/
import Derived.Test.YtooebmpjmcmkoaaCrcD
import Derived.Test.YtooebmpjmcmkoaaEngO
set_option maxRecDepth 100000
set_option linter.unusedVariables false
set_option linter.unusedSimpArgs false
namespace Go.Proofs.Ytooebmpjmcmkoaa.S
open Go Go.Proofs Go.Proofs.Ytooebmpjmcmkoaa.B Go.Proofs.YtooebmpjmcmkoaaEng Go.Proofs.YtooebmpjmcmkoaaCrc

theorem Open_short {w : World} {a : Option Addr} {n c : Nat} (hl : n < 4) :
    Calls Try.prog 32 #[.slice a n c] w (endW (fun v w' => v = .tuple #[.slice none 0 0, .int .i64 51] ∧ w' = w) (fun _ _ => False)) := by
  refine F32_calls a n c ?_
  delta F32
  rw [i64w _ (by omega) (by omega), if_pos (by simp; omega)]
  exact ⟨rfl, rfl⟩
theorem rOpen_short {w : World} {a : Option Addr} {n c : Nat} (hl : n < 4) :
    Calls Try.prog 39 #[.slice a n c] w (endW (fun v w' => v = .tuple #[.slice none 0 0, .int .i64 51] ∧ w' = w) (fun _ _ => False)) := by
  refine F39_calls a n c ?_
  delta F39
  rw [if_pos (by simp; omega)]
  exact ⟨rfl, rfl⟩

/-- what the first i of four bytes tell -/
def part (a b c d : UInt8) : Nat → BitVec 32
  | 0 => 0#32
  | 1 => a.toBitVec.setWidth 32
  | 2 => a.toBitVec.setWidth 32 ||| (b.toBitVec.setWidth 32 <<< 8)
  | 3 => a.toBitVec.setWidth 32 ||| (b.toBitVec.setWidth 32 <<< 8) ||| (c.toBitVec.setWidth 32 <<< 16)
  | _ => un4 a.toBitVec b.toBitVec c.toBitVec d.toBitVec
/-- The seal that stands behind. -/
def opens (ds : List UInt8) (a b c d : UInt8) : Bool := decide (crc (bv ds) = un4 a.toBitVec b.toBitVec c.toBitVec d.toBitVec)
def OpenEnd (w : World) (n : Nat) (ds : List UInt8) (x y z u : UInt8) (v : Value) (w' : World) : Prop :=
  if opens ds x y z u = true then ∃ a' c', v = .tuple #[.slice a' n c', .int .i64 0] ∧ Out w w' a' n c' ds ∧ Chg NoS w w' else v = .tuple #[.slice none 0 0, .int .i64 50] ∧ Chg NoS w w'

theorem OpenEnd.yes {w w' : World} {n : Nat} {ds : List UInt8} {x y z u : UInt8} {v : Value} (he : crc (bv ds) = un4 x.toBitVec y.toBitVec z.toBitVec u.toBitVec) (h : ∃ a' c', v = .tuple #[.slice a' n c', .int .i64 0] ∧ Out w w' a' n c' ds ∧ Chg NoS w w') : OpenEnd w n ds x y z u v w' := by
  unfold OpenEnd opens
  rw [if_pos (decide_eq_true he)]
  exact h
theorem OpenEnd.no {w w' : World} {n : Nat} {ds : List UInt8} {x y z u : UInt8} {v : Value} (he : ¬ crc (bv ds) = un4 x.toBitVec y.toBitVec z.toBitVec u.toBitVec) (h : v = .tuple #[.slice none 0 0, .int .i64 50] ∧ Chg NoS w w') : OpenEnd w n ds x y z u v w' := by
  unfold OpenEnd opens
  rw [if_neg (by simpa using he)]
  exact h
theorem ite_dec (c k : Nat) (a b : Option Addr) : (Decidable.rec (motive := fun _ => Option Addr) (fun (_ : ¬ c = k) => b) (fun (_ : c = k) => a) (instDecidableEqNat c k)) = if c = k then a else b := by
  cases instDecidableEqNat c k with
  | isTrue h => rw [if_pos h]
  | isFalse h => rw [if_neg h]

theorem Open_ok {w : World} {a : Option Addr} {n c : Nat} {ds : List UInt8} {x y z u : UInt8} (hn : ds.length + 4 = n) (hc : n ≤ c) (hr : Reads w a (vals (ds ++ [x, y, z, u]))) (hl : n ≤ 9223372036854775806) (hf : opens ds x y z u = true → n ≤ 140737488355328) :
    Calls Try.prog 32 #[.slice a n c] w (endW (OpenEnd w ds.length ds x y z u) (fun _ _ => False)) := by
  subst hn
  refine F32_calls a _ c ?_
  delta F32
  have hk : IntKind.wrap .i64 (((ds.length + 4 : Nat) : Int) - 4) = (ds.length : Int) := by rw [i64w _ (by omega) (by omega)]; omega
  simp only [hk, ite_dec, Int.toNat_natCast, Nat.sub_zero]
  rw [if_neg (by simp)]
  have hd := reads_drop hr ds.length c (fun _ => by omega)
  have e1 : (vals (ds ++ [x, y, z, u])).drop ds.length = vals [x, y, z, u] := by rw [vals_append, List.drop_left' (by rw [vals_length])]
  rw [e1] at hd
  refine ⟨by omega, by omega, fun s w1 => w1 = w ∧ ∃ k : Nat, s.2 = k ∧ k ≤ 4 ∧ s.1 = ((part x y z u k).toNat : Int), fun s _ => (4 - s.2).toNat, ⟨(0, 0), ⟨rfl, rfl, trivial⟩, rfl, 0, rfl, by omega, rfl⟩, ?_⟩
  rintro ⟨m, i⟩ w1 ⟨rfl, k, hi, hk4, hm⟩ _
  dsimp only at hi hm ⊢
  subst hi
  subst hm
  have hlen : ds.length + 4 - ds.length = 4 := by omega
  rw [hlen]
  by_cases h4 : k < 4
  · rw [if_pos (by simp; omega)]
    obtain ⟨A, hA, hcell⟩ := hd k _ (vals_get (bs := [x, y, z, u]) (by simpa using h4))
    rw [hA]
    refine ⟨by omega, by omega, _, by simpa using hcell, ?_, ?_⟩
    · rw [i64w _ (by omega) (by omega), u64w _ (by omega) (by omega)]; omega
    refine ⟨(((part x y z u (k + 1)).toNat : Int), ((k + 1 : Nat) : Int)), ⟨?_, ?_, trivial⟩, ⟨by trivial, k + 1, rfl, by omega, rfl⟩, by dsimp only; omega⟩
    · rw [i64w _ (by omega) (by omega), u64w _ (by omega) (by omega), show ((8 : Int) * (k : Int)).toNat = 8 * k from by omega, Nat.min_eq_left (by omega), u8b, wide32, shl32, ofInt_nat, ofInt_nat, wrap32]
      match k, h4 with
      | 0, _ => simp [part]
      | 1, _ => rfl
      | 2, _ => rfl
      | 3, _ => rfl
    · rw [i64w _ (by omega) (by omega)]; simp
  · rw [if_neg (by simp; omega)]
    have : k = 4 := by omega
    subst this
    refine ⟨by omega, by omega, ?_⟩
    simp only [cut0]
    have ht := reads_take hr ds.length
    rw [vals_append, List.take_left' (by rw [vals_length])] at ht
    refine Calls.then (Sum_ok rfl ht (by omega)) ?_
    rintro v w2 ⟨rfl, hc2⟩
    refine ⟨_, rfl, ?_⟩
    by_cases he : crc (bv ds) = un4 x.toBitVec y.toBitVec z.toBitVec u.toBitVec
    · have he2 : opens ds x y z u = true := decide_eq_true he
      have hfit := hf he2
      rw [if_neg (by simp [part, he])]
      refine ⟨by omega, by omega, ?_⟩
      refine bytes_fresh (base := w1.heap.size) bT Try.underlying31 rfl (ht.chg hc2 (fun _ _ x => x)) ?_ (by omega) hc2.size ?_
      · intro e
        subst e
        cases ds with
        | nil => rfl
        | cons b l => obtain ⟨A, hA, _⟩ := hr 0 _ (vals_get (by simp)); cases hA
      intro a' c' w3 ho3 hc3 hb3
      exact ⟨_, _, _, rfl, OpenEnd.yes he ⟨a', c', rfl, ho3, hc2.trans hc3⟩⟩
    · rw [if_pos ?_]
      · exact OpenEnd.no he ⟨rfl, hc2⟩
      · have hne : ¬ ((crc (bv ds)).toNat : Int) = ((un4 x.toBitVec y.toBitVec z.toBitVec u.toBitVec).toNat : Int) := fun e => he (BitVec.eq_of_toNat_eq (by omega))
        simpa [part] using hne

theorem rOpen_ok {w : World} {a : Option Addr} {n c : Nat} {ds : List UInt8} {x y z u : UInt8} (hn : ds.length + 4 = n) (hc : n ≤ c) (hr : Reads w a (vals (ds ++ [x, y, z, u]))) (hl : n ≤ 9223372036854775803) (hf : opens ds x y z u = true → n ≤ 140737488355328) :
    Calls Try.prog 39 #[.slice a n c] w (endW (OpenEnd w ds.length ds x y z u) (fun _ _ => False)) := by
  subst hn
  refine F39_calls a _ c ?_
  delta F39
  have hk : IntKind.wrap .i64 (((ds.length + 4 : Nat) : Int) - 4) = (ds.length : Int) := by rw [i64w _ (by omega) (by omega)]; omega
  have hk1 : IntKind.wrap .i64 ((ds.length : Int) + 1) = ((ds.length + 1 : Nat) : Int) := by rw [i64w _ (by omega) (by omega)]; omega
  have hk2 : IntKind.wrap .i64 ((ds.length : Int) + 2) = ((ds.length + 2 : Nat) : Int) := by rw [i64w _ (by omega) (by omega)]; omega
  have hk3 : IntKind.wrap .i64 ((ds.length : Int) + 3) = ((ds.length + 3 : Nat) : Int) := by rw [i64w _ (by omega) (by omega)]; omega
  simp only [hk, hk1, hk2, hk3, Int.toNat_natCast, Nat.sub_zero, cut0]
  rw [if_neg (by simp; omega)]
  have hrd := hr.chg (chg_drew w NoS) (fun _ _ x => x)
  have get : ∀ (i : Nat) (b : UInt8), [x, y, z, u][i]? = some b → ∃ A, a = some A ∧ w.drew.cell? (addK A (ds.length + i)) = some (.int .u8 b.toNat) := fun i b hb => by
    refine hrd (ds.length + i) _ ?_
    rw [vals_append, List.getElem?_append_right (by rw [vals_length]; omega), vals_length, show ds.length + i - ds.length = i from by omega]
    simp only [vals, List.getElem?_map, hb]
    rfl
  obtain ⟨A, rfl, g0⟩ := get 0 x rfl
  obtain ⟨A', e1, g1⟩ := get 1 y rfl
  obtain ⟨A'', e2, g2⟩ := get 2 z rfl
  obtain ⟨A3, e3, g3⟩ := get 3 u rfl
  cases e1
  cases e2
  cases e3
  refine ⟨by omega, by omega, by omega, by omega, by omega, by omega, by omega, by omega, _, by simpa using g0, _, by simpa using g1, by omega, _, by simpa using g2, by omega, _, by simpa using g3, by omega, by omega, by omega, ?_⟩
  have ht := reads_take hrd ds.length
  rw [vals_append, List.take_left' (by rw [vals_length])] at ht
  refine Calls.then (rSum_ok rfl ht (by omega)) ?_
  rintro v w2 ⟨rfl, hw2⟩
  subst hw2
  refine ⟨_, rfl, ?_⟩
  have hu : ∀ p q : BitVec 32, IntKind.wrap .u32 (BitVec.toNat (BitVec.ofInt 32 (p.toNat : Int) ||| BitVec.ofInt 32 (q.toNat : Int)) : Int) = ((p ||| q).toNat : Int) := fun p q => by rw [ofInt_nat, ofInt_nat, wrap32]
  have hsum : IntKind.wrap IntKind.u32 (↑(BitVec.toNat (BitVec.ofInt (32 : Nat) (IntKind.wrap IntKind.u32 (↑(BitVec.toNat (BitVec.ofInt (32 : Nat) (IntKind.wrap IntKind.u32 (↑(BitVec.toNat (BitVec.ofInt (32 : Nat) (IntKind.wrap IntKind.u32 (x.toNat : Int)) ||| BitVec.ofInt (32 : Nat) (IntKind.wrap IntKind.u32 (IntKind.wrap IntKind.u32 (y.toNat : Int) * (2 : Int) ^ (8 : Nat))))) : Int)) ||| BitVec.ofInt (32 : Nat) (IntKind.wrap IntKind.u32 (IntKind.wrap IntKind.u32 (z.toNat : Int) * (2 : Int) ^ (16 : Nat))))) : Int)) ||| BitVec.ofInt (32 : Nat) (IntKind.wrap IntKind.u32 (IntKind.wrap IntKind.u32 (u.toNat : Int) * (2 : Int) ^ (24 : Nat))))) : Int) = ((un4 x.toBitVec y.toBitVec z.toBitVec u.toBitVec).toNat : Int) := by
    rw [u8b, u8b, u8b, u8b, wide32, wide32, wide32, wide32, shl32, shl32, shl32, hu, hu, hu]
    rfl
  rw [hsum]
  by_cases he : crc (bv ds) = un4 x.toBitVec y.toBitVec z.toBitVec u.toBitVec
  · have he2 : opens ds x y z u = true := decide_eq_true he
    have hfit := hf he2
    rw [if_neg (by simp [he])]
    refine ⟨by omega, by omega, ?_⟩
    refine bytes_fresh (base := w.heap.size) bT Try.underlying31 rfl ht ?_ (by omega) (Nat.le_refl _) ?_
    · intro e; cases e
    intro a' c' w3 ho3 hc3 hb3
    exact ⟨_, _, _, rfl, OpenEnd.yes he ⟨a', c', rfl, ho3, (chg_drew w NoS).trans hc3⟩⟩
  · rw [if_pos ?_]
    · exact OpenEnd.no he ⟨rfl, chg_drew w NoS⟩
    · have hne : ¬ ((crc (bv ds)).toNat : Int) = ((un4 x.toBitVec y.toBitVec z.toBitVec u.toBitVec).toNat : Int) := fun e => he (BitVec.eq_of_toNat_eq (by omega))
      simpa using hne
theorem opens_sealed (bs : List UInt8) : ∃ x y z u, sealed bs = bs ++ [x, y, z, u] ∧ opens bs x y z u = true :=
  ⟨_, _, _, _, rfl, decide_eq_true (un4_le4 _).symm⟩
/-- What was sealed is opened. -/
theorem Open_sealed {w : World} {a : Option Addr} {n c : Nat} {bs : List UInt8} (hn : bs.length = n) (hl : n ≤ 16384) (hc : n + 4 ≤ c) (hr : Reads w a (vals (sealed bs))) :
    Calls Try.prog 32 #[.slice a (n + 4) c] w (endW (fun v w' => ∃ a' c', v = .tuple #[.slice a' n c', .int .i64 0] ∧ Out w w' a' n c' bs ∧ Chg NoS w w') (fun _ _ => False)) := by
  subst hn
  obtain ⟨x, y, z, u, he, ho⟩ := opens_sealed bs
  rw [he] at hr
  refine Calls.then (Open_ok rfl hc hr (by omega) (fun _ => by omega)) ?_
  intro v w' h
  unfold OpenEnd at h
  rw [if_pos ho] at h
  exact h
/-- bytes that came in -/
theorem bytes_of_is {B : Nat} {w : World} {m : Nat} {a : Option Addr} {n c : Nat} (h : Is B Try.prog w (m + 2) 31 [.slice a n c]) : ∃ bs : List UInt8, bs.length = n ∧ n ≤ c ∧ c ≤ B ∧ (a = none → n = 0) ∧ Reads w a (vals bs) := by
  obtain ⟨a', n', c', e, h1, h2, h3, zs, h4, h5, h6⟩ := h.ints Try.underlying31 Try.underlying5 (by kernel_rfl)
  injection e with e _
  injection e with e1 e2 e3
  subst e1
  subst e2
  subst e3
  refine ⟨zs.map fun z => UInt8.ofNat z.toNat, by simpa using h4, h1, h2, fun e => by have := h3 e; omega, ?_⟩
  have : vals (zs.map fun z => UInt8.ofNat z.toNat) = zs.map (Value.int .u8) := by
    unfold vals
    rw [List.map_map]
    refine List.map_congr_left fun z hz => ?_
    have hw : 0 ≤ z ∧ z ≤ 255 := by simpa [Lit.wf, IntKind.min, IntKind.max, IntKind.signed, IntKind.bits] using h5 z hz
    simp only [Function.comp]
    congr 1
    rw [UInt8.toNat_ofNat']
    omega
  rw [this]
  exact h6
/-- the four last -/
theorem last4 {bs : List UInt8} (h : 4 ≤ bs.length) : ∃ ds x y z u, bs = ds ++ [x, y, z, u] ∧ ds.length + 4 = bs.length := by
  have h1 : (bs.drop (bs.length - 4)).length = 4 := by rw [List.length_drop]; omega
  have h2 := List.take_append_drop (bs.length - 4) bs
  match hd : bs.drop (bs.length - 4), h1 with
  | [x, y, z, u], _ =>
    rw [hd] at h2
    exact ⟨_, x, y, z, u, h2.symm, by rw [List.length_take]; omega⟩

end Go.Proofs.Ytooebmpjmcmkoaa.S
