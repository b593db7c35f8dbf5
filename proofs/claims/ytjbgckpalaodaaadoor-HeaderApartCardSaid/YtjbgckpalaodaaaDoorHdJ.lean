/-
  header: Tells, Less, Wide, Known.
-/
import Derived.Test.YtjbgckpalaodaaaDoorHdI
set_option maxRecDepth 100000
set_option linter.unusedVariables false
set_option linter.unusedSimpArgs false
namespace Go.Proofs.YtjbgckpalaodaaaDoor.B
open Go Go.Proofs Go.Proofs.YtjbgckpalaodaaaDoorEng Go.RowKit

abbrev Yes (w : World) : Value → World → Prop := fun v w' => v = .bool true ∧ Chg NoS w w'
theorem wake_end {w0 w : World} (hT : Tab w) (hc : Chg NoS w0 w) : Calls Tryd.prog 14 #[] w (endW (fun (v : Value) (w' : World) => ∃ b, v = .bool b ∧ Yes w0 (.bool b) w') (fun _ _ => False)) := by
  refine Calls.then (wakes_ok w hT) ?_
  rintro v w' ⟨rfl, hc2⟩
  exact ⟨_, rfl, rfl, hc.trans hc2⟩
theorem kept_of {w w' : World} (hc : Chg NoS w w') : Kept NoS w w' := ⟨hc.size, fun b hb _ => hc.block b hb fun x => x⟩
theorem tells_ok (w : World) (h : HN) (f : Int) (hT : Tab w) : Calls Tryd.prog 3 #[.agg (hvs h), .int .i8 f] w (endW (Yes w) (fun _ _ => False)) := by
  refine F3_calls _ _ _ _ _ _ _ _ _ _ _ _ ?_
  delta F3
  have hb : ((w.alloc (.cells (hvs h) 24)).drew).heap[w.heap.size]? = some (.cells (hvs h) 24 (0, 0)) := blk_alloc w (.cells (hvs h) 24)
  have hc0 : Chg NoS w (w.alloc (.cells (hvs h) 24)).drew := (chg_alloc w _ _).trans (chg_drew _ _)
  have cl := hcell hb
  have hT0 := hT.chg hc0
  refine ⟨NoS, ?_⟩
  show ¬ NoS w.heap.size ∧ ∃ x, World.cell? (w.alloc (.cells (hvs h) 24)).drew _ = some (.int .u64 x) ∧ _
  refine ⟨fun x => x, _, cl 0 (by omega), _, cl 1 (by omega), _, cl 2 (by omega), _, cl 3 (by omega), _, cl 4 (by omega), _, cl 5 (by omega), _, cl 6 (by omega), _, cl 7 (by omega), _, cl 8 (by omega), _, cl 9 (by omega), _, cl 10 (by omega), fun x => x, _, cl 0 (by omega), _, cl 1 (by omega), _, cl 2 (by omega), _, cl 3 (by omega), _, cl 4 (by omega), _, cl 5 (by omega), _, cl 6 (by omega), _, cl 7 (by omega), _, cl 8 (by omega), _, cl 9 (by omega), _, cl 10 (by omega), ?_⟩
  generalize (w.alloc (.cells (hvs h) 24)).drew = w0 at hb hc0 cl hT0 ⊢
  refine Calls.then (Check_ok w0 h) ?_
  rintro v w1 ⟨rfl, hc1⟩
  refine ⟨_, rfl, kept_of hc1, ?_⟩
  refine Calls.then (rCheck_ok w1 h) ?_
  rintro v w2 ⟨rfl, hc2⟩
  have hc02 := hc1.trans hc2
  refine ⟨_, rfl, kept_of hc02, ?_⟩
  rw [if_pos (by simp)]
  refine ⟨fun x => x, _, cl 0 (by omega), _, cl 1 (by omega), _, cl 2 (by omega), _, cl 3 (by omega), _, cl 4 (by omega), _, cl 5 (by omega), _, cl 6 (by omega), _, cl 7 (by omega), _, cl 8 (by omega), _, cl 9 (by omega), _, cl 10 (by omega), fun x => x, _, cl 0 (by omega), _, cl 1 (by omega), _, cl 2 (by omega), _, cl 3 (by omega), _, cl 4 (by omega), _, cl 5 (by omega), _, cl 6 (by omega), _, cl 7 (by omega), _, cl 8 (by omega), _, cl 9 (by omega), _, cl 10 (by omega), ?_⟩
  refine Calls.then (Text_ok w2 h (hT0.chg hc02)) ?_
  rintro v w3 ⟨rfl, hc3⟩
  have hc03 := hc02.trans hc3
  refine ⟨_, rfl, kept_of hc03, ?_⟩
  refine Calls.then (rText_ok w3 h) ?_
  rintro v w4 ⟨rfl, hc4⟩
  refine ⟨_, rfl, ?_⟩
  rw [if_pos (by simp)]
  refine Calls.then (Width_ok w4 f) ?_
  rintro v w5 ⟨rfl, hc5⟩
  refine ⟨_, rfl, ?_⟩
  refine Calls.then (rWidth_ok w5 f) ?_
  rintro v w6 ⟨rfl, hc6⟩
  refine ⟨_, rfl, ?_⟩
  rw [if_pos (by simp)]
  have hc06 := ((hc03.trans hc4).trans hc5).trans hc6
  exact wake_end (hT0.chg hc06) (hc0.trans hc06)

def upH (h : HN) (i v : Nat) : HN := fun k => if k = i then v else h k
theorem hvs_up (h : HN) (v : Nat) : ∀ i, i < 11 → hvs (upH h i v) = (hvs h).setIfInBounds i (.int .u64 v)
  | 0, _ => rfl | 1, _ => rfl | 2, _ => rfl | 3, _ => rfl | 4, _ => rfl | 5, _ => rfl | 6, _ => rfl | 7, _ => rfl | 8, _ => rfl | 9, _ => rfl | 10, _ => rfl
  | k + 11, hk => by omega
theorem setH {h : HN} {w : World} {p i : Nat} {v : Nat} {z : Int} {K : World → Prop} (hb : w.heap[p]? = some (.cells (hvs h) 24 (0, 0))) (hi : i < 11) (hz : z = (v : Int)) (hK : ∀ w', w'.heap[p]? = some (.cells (hvs (upH h i v)) 24 (0, 0)) → Chg (OnlyB p) w w' → K w') : setW w (addK ⟨p, 0, none⟩ i) (.int .u64 z) K := by
  subst hz
  have := sets_part (w := w) (b := p) (t := 24) (K := K) [.int .u64 (v : Int)] i (hvs h) hb (by show i + 1 ≤ 11; omega) (by simp [oneC]) fun w' b' c' _ => hK w' (by rw [hvs_up h v i hi]; exact b') c'
  exact this
theorem okH_zero {h : HN} (ho : okH h) {f : Nat} (h2 : f ≠ 2) (h6 : f ≠ 6) : okH (upH h f 0) := by
  obtain ⟨ha, g⟩ := ho
  refine ⟨fun k hk => ?_, ?_⟩
  · unfold upH; split
    · exact Nat.two_pow_pos _
    · exact ha k hk
  · have e2 : upH h f 0 2 = h 2 := if_neg (Ne.symm h2)
    have e6 : upH h f 0 6 = h 6 := if_neg (Ne.symm h6)
    have z : ∀ k, h k = 0 → upH h f 0 k = 0 := fun k hk => by unfold upH; split <;> first | rfl | exact hk
    rw [e2, e6]
    obtain ⟨g1, g2, g3, g4, g5⟩ := g
    refine ⟨g1, g2, g3, ?_, ?_⟩
    · rcases g4 with g | g | g
      · exact .inl g
      · exact .inr (.inl g)
      · exact .inr (.inr ⟨z 4 g.1, z 5 g.2⟩)
    · rcases g5 with g | g
      · exact .inl g
      · exact .inr ⟨z 7 g.1, z 8 g.2⟩
theorem tmod11 {z : Int} (h0 : 0 ≤ z) (hz : z < 256) : ∃ f : Nat, f < 11 ∧ Int.tmod (IntKind.wrap .i64 z) 11 = (f : Int) := by
  rw [i64w _ (by omega) (by omega), Int.tmod_eq_emod_of_nonneg h0]
  exact ⟨(z % 11).toNat, by omega, by omega⟩
theorem less_ok (w : World) (h : HN) (z : Int) (h0 : 0 ≤ z) (hz : z < 256) (hT : Tab w) : Calls Tryd.prog 5 #[.agg (hvs h), .int .u8 z] w (endW (Yes w) (fun _ _ => False)) := by
  refine F5_calls _ _ _ _ _ _ _ _ _ _ _ _ ?_
  delta F5
  obtain ⟨f, hf, e⟩ := tmod11 h0 hz
  rw [e]
  have hb := blk_alloc w (.cells (hvs h) 24)
  have hc0 := chg_alloc w (.cells (hvs h) 24) NoS
  have cl := hcell hb
  have hT0 := hT.chg hc0
  show _ ∧ ∃ x, World.cell? (w.alloc (.cells (hvs h) 24)) _ = some (.int .u64 x) ∧ _
  refine ⟨by omega, _, cl 0 (by omega), _, cl 1 (by omega), _, cl 2 (by omega), _, cl 3 (by omega), _, cl 4 (by omega), _, cl 5 (by omega), _, cl 6 (by omega), _, cl 7 (by omega), _, cl 8 (by omega), _, cl 9 (by omega), _, cl 10 (by omega), ?_⟩
  generalize w.alloc (.cells (hvs h) 24) = w0 at hb hc0 cl hT0 ⊢
  refine Calls.then (Check_ok w0 h) ?_
  rintro v w1 ⟨rfl, hc1⟩
  refine ⟨_, rfl, ?_⟩
  have hT1 := hT0.chg hc1
  have hc01 := hc0.trans hc1
  by_cases ho : okH h
  · rw [okH_yes ho, if_pos (by decide)]
    by_cases h2 : f = 2
    · rw [if_neg (by simp [h2])]
      exact wake_end hT1 hc01
    · rw [if_pos (by simp; omega)]
      by_cases h6 : f = 6
      · rw [if_pos (by simp [h6])]
        exact wake_end hT1 hc01
      · rw [if_neg (by simp; omega)]
        refine ⟨by omega, by omega, ?_⟩
        rw [Int.toNat_natCast, Nat.mul_one]
        refine setH (hc1.blk hb fun x => x) hf (v := 0) rfl ?_
        intro w2 b2 c2
        have cl2 := hcell b2
        refine ⟨_, cl2 0 (by omega), _, cl2 1 (by omega), _, cl2 2 (by omega), _, cl2 3 (by omega), _, cl2 4 (by omega), _, cl2 5 (by omega), _, cl2 6 (by omega), _, cl2 7 (by omega), _, cl2 8 (by omega), _, cl2 9 (by omega), _, cl2 10 (by omega), ?_⟩
        have hc02 : Chg NoS w w2 := hc01.trans2 c2 fun k hk e => by
          have : k = w.heap.size := e
          omega
        refine Calls.then (Check_ok w2 (upH h f 0)) ?_
        rintro v w3 ⟨rfl, hc3⟩
        refine ⟨_, rfl, ?_⟩
        rw [okH_yes (okH_zero ho h2 h6), if_pos (by decide)]
        have hc03 := hc02.trans hc3
        exact wake_end (hT.chg hc03) hc03
  · rw [okH_no ho, if_neg (by decide)]
    exact wake_end hT1 hc01

theorem or_ge {a b : Nat} (ha : a < 18446744073709551616) (hb : b < 64) : ∃ n : Nat, IntKind.wrap .u64 ((BitVec.ofInt 64 (a : Int) ||| BitVec.ofInt 64 (IntKind.wrap .u64 (1 * (2 : Int) ^ min ((b : Nat) : Int).toNat 64))).toNat : Int) = (n : Int) ∧ 2 ^ b ≤ n := by
  rw [Int.toNat_natCast, Nat.min_eq_left (by omega)]
  have hp : 2 ^ b < 2 ^ 64 := Nat.pow_lt_pow_right (by omega) hb
  have e1 : IntKind.wrap .u64 (1 * (2 : Int) ^ b) = ((2 ^ b : Nat) : Int) := by
    rw [Int.one_mul, show (2 : Int) ^ b = ((2 ^ b : Nat) : Int) from by push_cast; rfl]
    exact w64 _ (by omega)
  rw [e1]
  have e : (BitVec.ofInt 64 (a : Int) ||| BitVec.ofInt 64 ((2 ^ b : Nat) : Int)).toNat = a ||| 2 ^ b := by
    generalize 2 ^ b = q at hp ⊢
    rw [BitVec.toNat_or, BitVec.toNat_ofInt, BitVec.toNat_ofInt]
    congr 1 <;> omega
  have hlt : a ||| 2 ^ b < 2 ^ 64 := Nat.or_lt_two_pow (by omega) hp
  rw [e]
  exact ⟨_, w64 _ (by omega), Nat.right_le_or⟩
theorem wide_ok (w : World) (h : HN) (hh : ∀ k, k < 11 → h k < 18446744073709551616) (z y : Int) (h0 : 0 ≤ z) (hz : z < 256) (y0 : 0 ≤ y) (hy : y < 256) (hT : Tab w) : Calls Tryd.prog 6 #[.agg (hvs h), .int .u8 z, .int .u8 y] w (endW (Yes w) (fun _ _ => False)) := by
  refine F6_calls _ _ _ _ _ _ _ _ _ _ _ _ _ ?_
  delta F6
  obtain ⟨f, hf, e⟩ := tmod11 h0 hz
  rw [e, IntWalk.i8_in _ (by omega)]
  have hb : ((w.alloc (.cells (hvs h) 24))).heap[w.heap.size]? = some (.cells (hvs h) 24 (0, 0)) := blk_alloc w (.cells (hvs h) 24)
  have hc0 := chg_alloc w (.cells (hvs h) 24) NoS
  have hT0 := hT.chg hc0
  refine ⟨by omega, ?_⟩
  refine Calls.then (Width_ok (w.alloc (.cells (hvs h) 24)) f) ?_
  generalize w.alloc (.cells (hvs h) 24) = w0 at hb hc0 hT0 ⊢
  rintro v w1 ⟨rfl, hc1⟩
  have hwi : widI (f : Int) = wid f := by unfold widI; rw [if_pos (by omega)]; rfl
  have hwp := wid_pos f hf
  rw [hwi]
  refine ⟨_, rfl, ?_⟩
  rw [if_pos (by simp; omega), if_neg (by simp; omega)]
  have e64 : IntKind.wrap .i64 (64 - (wid f : Int)) = 64 - (wid f : Int) := i64w _ (by omega) (by omega)
  have eb : IntKind.wrap .i64 y = y := i64w _ (by omega) (by omega)
  rw [e64, eb]
  have hm : ∃ b : Nat, wid f ≤ b ∧ b < 64 ∧ IntKind.wrap .i64 ((wid f : Int) + Int.tmod y (64 - (wid f : Int))) = (b : Int) := by
    rw [Int.tmod_eq_emod_of_nonneg y0]
    have g1 := Int.emod_nonneg y (b := 64 - (wid f : Int)) (by omega)
    have g2 := Int.emod_lt_of_pos y (b := 64 - (wid f : Int)) (by omega)
    refine ⟨((wid f : Int) + y % (64 - (wid f : Int))).toNat, by omega, by omega, ?_⟩
    rw [i64w _ (by omega) (by omega)]
    omega
  obtain ⟨b, hb1, hb2, eb2⟩ := hm
  rw [eb2, w64 b (by omega)]
  have b1 : w1.drew.heap[w.heap.size]? = some (.cells (hvs h) 24 (0, 0)) := hc1.blk hb fun x => x
  have cl1 := hcell b1
  rw [Int.toNat_natCast, Nat.mul_one]
  refine ⟨by omega, by omega, by omega, by omega, _, cl1 f hf, by omega, by omega, ?_⟩
  obtain ⟨n, en, hn⟩ := or_ge (hh f hf) hb2
  rw [en]
  refine setH b1 hf (v := n) rfl ?_
  intro w2 b2 c2
  have cl2 := hcell b2
  refine ⟨_, cl2 0 (by omega), _, cl2 1 (by omega), _, cl2 2 (by omega), _, cl2 3 (by omega), _, cl2 4 (by omega), _, cl2 5 (by omega), _, cl2 6 (by omega), _, cl2 7 (by omega), _, cl2 8 (by omega), _, cl2 9 (by omega), _, cl2 10 (by omega), ?_⟩
  have hc02 : Chg NoS w w2 := ((hc0.trans hc1).trans (chg_drew _ _)).trans2 c2 fun k hk e => by
    have : k = w.heap.size := e
    omega
  have hno : ¬ okH (upH h f n) := fun ho => by
    have := ho.1 f hf
    rw [show upH h f n f = n from if_pos rfl] at this
    have : 2 ^ wid f ≤ 2 ^ b := Nat.pow_le_pow_right (by omega) hb1
    omega
  refine Calls.then (Check_ok w2 (upH h f n)) ?_
  rintro v w3 ⟨rfl, hc3⟩
  refine ⟨_, rfl, ?_⟩
  rw [okH_no hno, if_pos (by decide)]
  have cl3 := hcell (hc3.blk b2 fun x => x)
  refine ⟨_, cl3 0 (by omega), _, cl3 1 (by omega), _, cl3 2 (by omega), _, cl3 3 (by omega), _, cl3 4 (by omega), _, cl3 5 (by omega), _, cl3 6 (by omega), _, cl3 7 (by omega), _, cl3 8 (by omega), _, cl3 9 (by omega), _, cl3 10 (by omega), ?_⟩
  have hc03 := hc02.trans hc3
  refine Calls.then (Text_ok w3 (upH h f n) (hT.chg hc03)) ?_
  rintro v w4 ⟨rfl, hc4⟩
  refine ⟨_, rfl, ?_⟩
  have ht : text (upH h f n) = [] := by unfold text; rw [if_neg hno]
  rw [ht, if_pos (by exact beq_iff_eq.2 rfl)]
  have hc04 := hc03.trans hc4
  exact wake_end (hT.chg hc04) hc04

/-! ### Known -/
def rows6 : List (List Nat) := [[0, 0, 2054, 0, 0, 0, 6, 0, 0, 0, 0], [0, 0, 2048, 0, 0, 0, 0, 0, 80, 0, 0], [0, 0, 33024, 0, 0, 0, 0, 0, 0, 0, 0], [0, 0, 1535, 0, 0, 0, 0, 0, 0, 0, 0], [0, 0, 1536, 4096, 0, 0, 0, 0, 0, 0, 0], [0, 0, 1536, 0, 0, 1, 0, 0, 0, 0, 0]]
def row (i : Nat) : HN := lst (rows6.getD i [])
theorem row_no : ∀ i, i < 6 → ¬ okH (row i)
  | 0, _ => fun h => absurd h.2.2.2.1 (by decide)
  | 1, _ => fun h => absurd h.2.2.2.2.2 (by decide)
  | 2, _ => fun h => absurd h.2.1 (by decide)
  | 3, _ => fun h => absurd h.2.2.1 (by decide)
  | 4, _ => fun h => absurd (h.1 3 (by omega)) (by decide)
  | 5, _ => fun h => absurd h.2.2.2.2.1 (by decide)
  | k + 6, hk => by omega
def big : Array Value := #[.int .u64 0, .int .u64 0, .int .u64 2054, .int .u64 0, .int .u64 0, .int .u64 0, .int .u64 6, .int .u64 0, .int .u64 0, .int .u64 0, .int .u64 0, .int .u64 0, .int .u64 0, .int .u64 2048, .int .u64 0, .int .u64 0, .int .u64 0, .int .u64 0, .int .u64 0, .int .u64 80, .int .u64 0, .int .u64 0, .int .u64 0, .int .u64 0, .int .u64 33024, .int .u64 0, .int .u64 0, .int .u64 0, .int .u64 0, .int .u64 0, .int .u64 0, .int .u64 0, .int .u64 0, .int .u64 0, .int .u64 0, .int .u64 1535, .int .u64 0, .int .u64 0, .int .u64 0, .int .u64 0, .int .u64 0, .int .u64 0, .int .u64 0, .int .u64 0, .int .u64 0, .int .u64 0, .int .u64 1536, .int .u64 4096, .int .u64 0, .int .u64 0, .int .u64 0, .int .u64 0, .int .u64 0, .int .u64 0, .int .u64 0, .int .u64 0, .int .u64 0, .int .u64 1536, .int .u64 0, .int .u64 0, .int .u64 1, .int .u64 0, .int .u64 0, .int .u64 0, .int .u64 0, .int .u64 0]
theorem big_at : ∀ i, i < 6 → ∀ k, k < 11 → big[i * 11 + k]? = some (.int .u64 (row i k : Nat))
  | 0, _, k, hk => match k, hk with
    | 0, _ => rfl | 1, _ => rfl | 2, _ => rfl | 3, _ => rfl | 4, _ => rfl | 5, _ => rfl | 6, _ => rfl | 7, _ => rfl | 8, _ => rfl | 9, _ => rfl | 10, _ => rfl
  | 1, _, k, hk => match k, hk with
    | 0, _ => rfl | 1, _ => rfl | 2, _ => rfl | 3, _ => rfl | 4, _ => rfl | 5, _ => rfl | 6, _ => rfl | 7, _ => rfl | 8, _ => rfl | 9, _ => rfl | 10, _ => rfl
  | 2, _, k, hk => match k, hk with
    | 0, _ => rfl | 1, _ => rfl | 2, _ => rfl | 3, _ => rfl | 4, _ => rfl | 5, _ => rfl | 6, _ => rfl | 7, _ => rfl | 8, _ => rfl | 9, _ => rfl | 10, _ => rfl
  | 3, _, k, hk => match k, hk with
    | 0, _ => rfl | 1, _ => rfl | 2, _ => rfl | 3, _ => rfl | 4, _ => rfl | 5, _ => rfl | 6, _ => rfl | 7, _ => rfl | 8, _ => rfl | 9, _ => rfl | 10, _ => rfl
  | 4, _, k, hk => match k, hk with
    | 0, _ => rfl | 1, _ => rfl | 2, _ => rfl | 3, _ => rfl | 4, _ => rfl | 5, _ => rfl | 6, _ => rfl | 7, _ => rfl | 8, _ => rfl | 9, _ => rfl | 10, _ => rfl
  | 5, _, k, hk => match k, hk with
    | 0, _ => rfl | 1, _ => rfl | 2, _ => rfl | 3, _ => rfl | 4, _ => rfl | 5, _ => rfl | 6, _ => rfl | 7, _ => rfl | 8, _ => rfl | 9, _ => rfl | 10, _ => rfl
  | k + 6, hk, _, _ => by omega
def hk5 : HN := lst [0, 0, 34997]
theorem hk5_ok : okH hk5 := okH_of (by decide) (by decide) (by decide) (by decide) (by decide) (by decide) (by decide) (by decide) (by decide) (by decide) (by decide) (by decide)
theorem hk5_text : text hk5 = [107, 105, 110, 100, 61, 48, 120, 56, 56, 98, 53] := by
  unfold text
  rw [if_pos hk5_ok]
  unfold parts
  rw [show (List.range 11).filter (has hk5) = [2] from by decide]
  have p2 : part hk5 2 = [107, 105, 110, 100, 61, 48, 120, 56, 56, 98, 53] := by decide
  simp only [List.map_cons, List.map_nil, p2]
  rfl
theorem known_ok (w : World) (hT : Tab w) : Calls Tryd.prog 7 #[] w (endW (Yes w) (fun _ _ => False)) := by
  refine F7_calls ?_
  delta F7
  have hb : (w.alloc (.cells big 24)).heap[w.heap.size]? = some (.cells big 24 (0, 0)) := blk_alloc w _
  have hc0 := chg_alloc w (.cells big 24) NoS
  refine ⟨fun s w' => ∃ i : Nat, s = (i : Int) ∧ i ≤ 6 ∧ Chg NoS (w.alloc (.cells big 24)) w', fun s _ => (6 - s).toNat, ⟨0, ⟨rfl, trivial⟩, 0, rfl, by omega, Chg.refl _ _⟩, ?_⟩
  rintro s w1 ⟨i, rfl, hi, hc1⟩ _
  have hc01 := hc0.trans hc1
  have b1 := hc1.blk hb fun x => x
  by_cases hlt : i < 6
  · rw [if_pos (by simp; omega)]
    have cb : ∀ k, k < 11 → w1.cell? (addK (addK ⟨w.heap.size, 0, none⟩ ((i : Int).toNat * 11)) k) = some (.int .u64 (row i k : Nat)) := fun k hk => by
      rw [addK_lit, addK_lit, Int.toNat_natCast, Nat.zero_add, cell_blk b1]
      exact big_at i hlt k hk
    refine ⟨by omega, by omega, _, cb 0 (by omega), _, cb 1 (by omega), _, cb 2 (by omega), _, cb 3 (by omega), _, cb 4 (by omega), _, cb 5 (by omega), _, cb 6 (by omega), _, cb 7 (by omega), _, cb 8 (by omega), _, cb 9 (by omega), _, cb 10 (by omega), ?_⟩
    refine (sets_blk (b := w1.heap.size) (t := 24) (cs := #[.int .u64 0, .int .u64 0, .int .u64 0, .int .u64 0, .int .u64 0, .int .u64 0, .int .u64 0, .int .u64 0, .int .u64 0, .int .u64 0, .int .u64 0]) (vs := (hvs (row i)).toList) (blk_alloc w1 _) rfl (by simp [oneC]) fun w2 b2 c2 z2 => ?_ : setsW _ _ _ _ _)
    have hc02 : Chg NoS w1 w2 := (chg_alloc w1 _ _).trans2 c2 fun k hk e => by
      have : k = w1.heap.size := e
      omega
    have cl2 := hcell (h := row i) b2
    refine ⟨_, cl2 0 (by omega), _, cl2 1 (by omega), _, cl2 2 (by omega), _, cl2 3 (by omega), _, cl2 4 (by omega), _, cl2 5 (by omega), _, cl2 6 (by omega), _, cl2 7 (by omega), _, cl2 8 (by omega), _, cl2 9 (by omega), _, cl2 10 (by omega), ?_⟩
    refine Calls.then (Check_ok w2 (row i)) ?_
    rintro v w3 ⟨rfl, hc3⟩
    refine ⟨_, rfl, ?_⟩
    rw [okH_no (row_no i hlt), if_neg (by decide)]
    exact ⟨((i + 1 : Nat) : Int), ⟨by rw [i64w _ (by omega) (by omega)]; rfl, trivial⟩, ⟨i + 1, rfl, by omega, (hc1.trans hc02).trans hc3⟩, by dsimp only; omega⟩
  · rw [if_neg (by simp; omega)]
    refine Calls.then (Text_ok w1 hk5 (hT.chg hc01)) ?_
    rintro v w3 ⟨rfl, hc3⟩
    refine ⟨_, rfl, ?_⟩
    rw [hk5_text, if_pos (by exact beq_iff_eq.2 rfl)]
    have hc03 := hc01.trans hc3
    exact wake_end (hT.chg hc03) hc03
end Go.Proofs.YtjbgckpalaodaaaDoor.B
