/-
  scan: the document's dotted.
-/
import Derived.Test.YthifnahfcbgnoaaDoorScR
set_option maxRecDepth 100000
set_option linter.unusedVariables false
set_option linter.unusedSimpArgs false
namespace Go.Proofs.YthifnahfcbgnoaaDoor.B
open Go Go.Proofs Go.Proofs.YthifnahfcbgnoaaDoorEng Go.RowKit

/-- a result taken apart -/
theorem take2 {k : Nat} {t : List UInt8} {o : One} {v : Value} {K : Int → ByteArray → Int → Int → Int → Int → ByteArray → Prop} (hv : v = docV t k o)
    (hok : ∀ kd e m : Nat, o = .ok kd e m → K kd (bs (cut t k e)) m k 0 0 ⟨#[]⟩) (hbad : ∀ code e : Nat, o = .bad code e → K 0 ⟨#[]⟩ 0 0 code k (bs (cut t k e))) :
    ∃ (vs : List Value), v = Value.tuple (List.toArray vs) ∧ ∃ (v : Value), ∃ (rest : List Value), vs = v :: rest ∧ ∃ (vs : List Value), v = Value.agg (List.toArray vs) ∧ ∃ (v : Value), ∃ (rest_1 : List Value), vs = v :: rest_1 ∧ ∃ (x : Int), v = Value.int IntKind.i8 x ∧ ∃ (v : Value), ∃ (rest_2 : List Value), rest_1 = v :: rest_2 ∧ ∃ (s : ByteArray), v = Value.string s ∧ ∃ (v : Value), ∃ (rest_3 : List Value), rest_2 = v :: rest_3 ∧ ∃ (x_1 : Int), v = Value.int IntKind.u64 x_1 ∧ ∃ (v : Value), ∃ (rest_4 : List Value), rest_3 = v :: rest_4 ∧ ∃ (x_2 : Int), v = Value.int IntKind.i64 x_2 ∧ rest_4 = [] ∧
      ∃ (v : Value), ∃ (rest_5 : List Value), rest = v :: rest_5 ∧ ∃ (vs : List Value), v = Value.agg (List.toArray vs) ∧ ∃ (v : Value), ∃ (rest : List Value), vs = v :: rest ∧ ∃ (x_3 : Int), v = Value.int IntKind.i64 x_3 ∧ ∃ (v : Value), ∃ (rest_6 : List Value), rest = v :: rest_6 ∧ ∃ (x_4 : Int), v = Value.int IntKind.i64 x_4 ∧ ∃ (v : Value), ∃ (rest : List Value), rest_6 = v :: rest ∧ ∃ (s_1 : ByteArray), v = Value.string s_1 ∧ rest = [] ∧ rest_5 = [] ∧ K x s x_1 x_2 x_3 x_4 s_1 := by
  subst hv
  cases o with
  | ok kd e m => exact ⟨_, rfl, _, _, rfl, _, rfl, _, _, rfl, _, rfl, _, _, rfl, _, rfl, _, _, rfl, _, rfl, _, _, rfl, _, rfl, rfl, _, _, rfl, _, rfl, _, _, rfl, _, rfl, _, _, rfl, _, rfl, _, _, rfl, _, rfl, rfl, rfl, hok kd e m rfl⟩
  | bad code e => exact ⟨_, rfl, _, _, rfl, _, rfl, _, _, rfl, _, rfl, _, _, rfl, _, rfl, _, _, rfl, _, rfl, _, _, rfl, _, rfl, rfl, _, _, rfl, _, rfl, _, _, rfl, _, rfl, _, _, rfl, _, rfl, _, _, rfl, _, rfl, rfl, rfl, hbad code e rfl⟩
theorem rdotted_ok (w : World) (t : List UInt8) (k : Nat) (hk : k ≤ t.length) (ht : t.length ≤ 65536) : Calls Tryd.prog 46 #[.string (bs t), .int .i64 (k : Int)] w (endW (DocR t k (dots t 0 k 0) w) (fun _ _ => False)) := by
  refine F46_calls _ _ ?_
  delta F46
  obtain ⟨h2, hc⟩ := two_new w
  have hs : w.heap.size ≤ (w.alloc W39).heap.size := by rw [size_alloc]; omega
  change ∃ I : Int × Int × Bool × Int → World → Prop, ∃ μ : Int × Int × Bool × Int → World → Nat, (∃ s, _ ∧ I s ((w.alloc W39).alloc F29o)) ∧ _
  generalize hq : (w.alloc W39).heap.size = q at h2 hs
  generalize hp : w.heap.size = p at h2 hs
  refine ⟨fun s w' => ∃ i at_ : Nat, s.2.1 = (at_ : Int) ∧ s.2.2.2 = (i : Int) ∧ i ≤ 4 ∧ k ≤ at_ ∧ at_ ≤ t.length ∧ Two w' p q ∧ Chg NoS w w' ∧ (s.2.2.1 = true → ∃ m : Nat, s.1 = (m : Int) ∧ m < 256 ^ i ∧ dots t i at_ m = dots t 0 k 0) ∧ (s.2.2.1 = false → dots t 0 k 0 = .bad 150 at_), fun s _ => (4 - s.2.2.2).toNat, ⟨(0, (k : Int), true, 0), ⟨rfl, rfl, rfl, rfl, trivial⟩, 0, k, rfl, rfl, by omega, Nat.le_refl _, hk, h2, hc, fun _ => ⟨0, rfl, by omega, rfl⟩, fun h => by cases h⟩, ?_⟩
  rintro ⟨n, z, gd, zi⟩ w1 ⟨i, at_, hz, hzi, hi, hka, hat, h21, hc1, hgood, hbad⟩ _
  dsimp only at hz hzi hgood hbad ⊢
  subst hz hzi
  have hpw : w.heap.size ≤ p := by omega
  have hqw : w.heap.size ≤ q := by omega
  have ret_bad : ∀ w' : World, Two w' p q → Chg NoS w w' → ∀ at' : Nat, dots t 0 k 0 = .bad 150 at' → ∀ w'', Chg (fun b => b = p ∨ b = q) w' w'' → DocR t k (dots t 0 k 0) w (.tuple #[.agg #[.int .i8 0, .string ⟨#[]⟩, .int .u64 0, .int .i64 0], .agg #[.int .i64 150, .int .i64 (k : Int), .string (bs (cut t k at'))]]) w'' := fun w' h hc at' ho => doc_bad h hpw hqw hc ho
  refine ⟨fun _ w' => w' = w1 ∧ gd = true ∧ i < 4, ?_, ?_⟩
  · rintro _ w2 ⟨rfl, rfl, hlt⟩ _
    obtain ⟨m, rfl, hm, he⟩ := hgood rfl
    have hm24 : m < 16777216 := Nat.lt_of_lt_of_le hm (by
      have : 256 ^ i ≤ 256 ^ 3 := Nat.pow_le_pow_right (by omega) (by omega)
      omega)
    generalize hb : (if i = 0 then at_ else at_ + 1) = b
    refine ⟨fun s w' => s = (b : Int) ∧ (i = 0 ∨ isAt t at_ 46 = true) ∧ k ≤ b ∧ b ≤ t.length ∧ w' = w2, ?_, ?_⟩
    · rintro _ w3 ⟨rfl, hcol, hkb, hbl, rfl⟩ _
      refine Calls.then (run_ok w3 t b hbl ht) ?_
      rintro v w4 ⟨rfl, rfl⟩
      have hsp := span_le isDig t b
      have hcd := cut_dig isDig (t := t) (k := b) hbl
      generalize hee : span isDig t b = e at hsp hcd
      have hel := hsp.2 hbl
      have hle := hsp.1
      have hcl := cut_length t b e hle hel
      refine ⟨_, rfl, ?_⟩
      refine Calls.then (decimal_ok w4 (cut t b e) hcd (by rw [hcl]; omega)) ?_
      rintro v w5 ⟨rfl, rfl⟩
      have e1 : IntKind.wrap .i64 ((b : Int) + ((cut t b e).length : Int)) = (e : Int) := by rw [hcl, i64w _ (by omega) (by omega)]; omega
      rw [show ({ data := #[] } : ByteArray) = bs [] from rfl, bs_beq, bs_size, e1]
      have next : ∀ (n' : Int) (g' : Bool), (g' = true → n' = ((m * 256 + vals 10 (cut t b e) : Nat) : Int) ∧ (cut t b e ≠ [] ∧ vals 10 (cut t b e) ≤ 255 ∧ ¬ (b + 1 < e ∧ isAt t b 48 = true))) → (g' = false → ¬ (cut t b e ≠ [] ∧ vals 10 (cut t b e) ≤ 255 ∧ ¬ (b + 1 < e ∧ isAt t b 48 = true))) →
          ∃ s' : Int × Int × Bool × Int, (Value.int .u64 s'.1 = .int .u64 n' ∧ Value.int .i64 s'.2.1 = .int .i64 (e : Int) ∧ Value.bool s'.2.2.1 = .bool g' ∧ Value.int .i64 s'.2.2.2 = .int .i64 (IntKind.wrap .i64 ((i : Int) + 1)) ∧ True) ∧
            (∃ i at_ : Nat, s'.2.1 = (at_ : Int) ∧ s'.2.2.2 = (i : Int) ∧ i ≤ 4 ∧ k ≤ at_ ∧ at_ ≤ t.length ∧ Two w5 p q ∧ Chg NoS w w5 ∧ (s'.2.2.1 = true → ∃ m : Nat, s'.1 = (m : Int) ∧ m < 256 ^ i ∧ dots t i at_ m = dots t 0 k 0) ∧ (s'.2.2.1 = false → dots t 0 k 0 = .bad 150 at_)) ∧ (4 - s'.2.2.2).toNat < (4 - (i : Int)).toNat := fun n' g' hg1 hg2 =>
        ⟨(n', (e : Int), g', ((i + 1 : Nat) : Int)), ⟨rfl, rfl, rfl, by rw [i64w _ (by omega) (by omega)]; rfl, trivial⟩, ⟨i + 1, e, rfl, rfl, by omega, by omega, hel, h21, hc1, fun h => by
          obtain ⟨h1, h2⟩ := hg1 h
          refine ⟨_, h1, ?_, ?_⟩
          · rw [Nat.pow_succ]; omega
          · rw [← dots_go hlt hb.symm hee.symm hcol h2]; exact he, fun h => by rw [← he, dots_bad hlt hb.symm hee.symm hcol (hg2 h)]⟩, by dsimp only; omega⟩
      by_cases hne : cut t b e = []
      · have : vals 10 (cut t b e) ≤ 18446744073709551615 := by rw [hne]; simp [vals]
        rw [if_pos this]
        refine ⟨_, rfl, _, _, rfl, _, rfl, _, _, rfl, _, rfl, rfl, ?_⟩
        rw [if_neg (by simp [hne])]
        exact ⟨by omega, next _ _ (fun h => by cases h) (fun _ hh => hh.1 hne)⟩
      · have hlp : 0 < (cut t b e).length := List.length_pos_iff.2 hne
        by_cases hv : vals 10 (cut t b e) ≤ 18446744073709551615
        · rw [if_pos hv]
          refine ⟨_, rfl, _, _, rfl, _, rfl, _, _, rfl, _, rfl, rfl, ?_⟩
          rw [if_pos (by simp [hne]), if_pos rfl]
          by_cases hv2 : vals 10 (cut t b e) ≤ 255
          · rw [if_pos (by simp; omega)]
            have en : IntKind.wrap .u64 ((BitVec.ofInt 64 (IntKind.wrap .u64 ((m : Int) * (2 : Int) ^ 8)) ||| BitVec.ofInt 64 ((vals 10 (cut t b e) : Nat) : Int)).toNat : Int) = ((m * 256 + vals 10 (cut t b e) : Nat) : Int) := by
              have e3 : IntKind.wrap .u64 ((m : Int) * (2 : Int) ^ 8) = ((m * 2 ^ 8 : Nat) : Int) := by rw [wrap_u64]; omega
              rw [e3, or_low (k := 8) (by omega) (by omega) (by omega), wrap_u64]
              omega
            rw [en]
            by_cases hl1 : (cut t b e).length = 1
            · rw [if_neg (by simp [hl1])]
              exact ⟨by omega, next _ _ (fun _ => ⟨rfl, hne, hv2, fun hh => by have := hh.1; omega⟩) (fun h => by cases h)⟩
            · rw [if_pos (by simp; omega)]
              refine ⟨by omega, by omega, by omega, next _ _ (fun h => ⟨rfl, hne, hv2, fun hh => ?_⟩) (fun h hh => ?_)⟩
              · have h48 := hh.2
                simp [isAt] at h48
                have hg0 : g (cut t b e) 0 = g t b := cut_get t b e 0 (by omega)
                have h0 : byteAt (bs (cut t b e)) 0 = (g (cut t b e) 0 : Int) := g_at _ 0
                rw [h0, hg0, h48.2] at h
                simp at h
              · have hg0 : g (cut t b e) 0 = g t b := cut_get t b e 0 (by omega)
                have h0 : byteAt (bs (cut t b e)) 0 = (g (cut t b e) 0 : Int) := g_at _ 0
                rw [h0, hg0] at h
                simp at h
                exact hh.2.2 ⟨by omega, by simp [isAt]; omega⟩
          · rw [if_neg (by simp; omega)]
            exact ⟨by omega, next _ _ (fun h => by cases h) (fun _ hh => hv2 hh.2.1)⟩
        · rw [if_neg hv]
          refine ⟨_, rfl, _, _, rfl, _, rfl, _, _, rfl, _, rfl, rfl, ?_⟩
          rw [if_pos (by simp [hne]), if_neg (by decide)]
          exact ⟨by omega, next _ _ (fun h => by cases h) (fun _ hh => by have := hh.2.1; omega)⟩
    · have h21d : Two w2.drew p q := h21
      have hc1d : Chg NoS w w2.drew := hc1.trans (chg_drew _ _)
      by_cases hi0 : i = 0
      · rw [if_neg (by simp; omega)]
        rw [if_pos hi0] at hb
        subst hb
        exact ⟨(at_ : Int), ⟨rfl, trivial⟩, rfl, .inl hi0, hka, hat, rfl⟩
      · rw [if_pos (by simp; omega)]
        rw [if_neg hi0] at hb
        subst hb
        rw [bs_size, Int.toNat_natCast, Int.toNat_natCast, ext_cut]
        by_cases hl : at_ < t.length
        · rw [if_pos (by simp; omega)]
          refine ⟨by omega, by omega, ?_⟩
          rw [g_at]
          by_cases hx : g t at_ = 46
          · rw [if_neg (by simp [hx])]
            exact ⟨((at_ + 1 : Nat) : Int), ⟨by rw [i64w _ (by omega) (by omega)]; rfl, trivial⟩, rfl, .inr (by simp [isAt, hl, hx]), by omega, by omega, rfl⟩
          · rw [if_pos (by simp; omega)]
            exact ⟨by omega, by omega, by omega, by omega, ret2 h21d (ret_bad _ h21d hc1d at_ (by rw [← he, dots_no hlt fun hh => by rcases hh with h | h; exact hi0 h; simp [isAt, hx] at h]))⟩
        · rw [if_neg (by simp; omega)]
          exact ⟨by omega, by omega, by omega, by omega, ret2 h21d (ret_bad _ h21d hc1d at_ (by rw [← he, dots_no hlt fun hh => by rcases hh with h | h; exact hi0 h; simp [isAt, hl] at h]))⟩
  · have h21d : Two w1.drew p q := h21
    have hc1d : Chg NoS w w1.drew := hc1.trans (chg_drew _ _)
    rw [bs_size, Int.toNat_natCast, Int.toNat_natCast, ext_cut]
    have close : ¬ i < 4 → gd = true → Calls Tryd.prog 44 #[.string (bs t), .int .i64 (k : Int), .int .i64 (at_ : Int), .int .u64 n, .string (bs (cut t k at_))] w1 (endW (fun v w' => v = docV t k (dots t 0 k 0) ∧ Chg NoS w w' ∧ Two w' p q) (fun _ _ => False)) := fun h4 hg => by
      obtain ⟨m, rfl, hm, he⟩ := hgood hg
      have : i = 4 := by omega
      subst this
      rw [dots_end] at he
      refine Calls.then (rclosed_ok w1 t k at_ m hka hat) ?_
      rintro v w2 ⟨rfl, hc2⟩
      exact ⟨by rw [he], hc1.trans hc2, h21.chg hc2⟩
    cases gd with
    | true =>
      by_cases hlt : i < 4
      · rw [if_pos (by simp; omega), if_pos rfl]
        exact ⟨(), trivial, rfl, rfl, hlt⟩
      · rw [if_neg (by simp; omega), if_neg (by decide)]
        refine ⟨by omega, by omega, by omega, by omega, ?_⟩
        refine Calls.then (close hlt rfl) ?_
        rintro v w2 ⟨hv, hc2, h22⟩
        exact take2 hv (fun kd e m ho => ret2 h22 (doc_ok h22 hpw hqw hc2 ho)) (fun code e ho => ret2 h22 (doc_bad h22 hpw hqw hc2 ho))
    | false =>
      have hb := hbad rfl
      refine ite_both (fun _ => ?_) (fun _ => ?_)
      · rw [if_neg (by decide), if_pos (by decide)]
        exact ⟨by omega, by omega, by omega, by omega, ret2 h21d (ret_bad _ h21d hc1d at_ hb)⟩
      · rw [if_pos (by decide)]
        exact ⟨by omega, by omega, by omega, by omega, ret2 h21d (ret_bad _ h21d hc1d at_ hb)⟩
end Go.Proofs.YthifnahfcbgnoaaDoor.B
