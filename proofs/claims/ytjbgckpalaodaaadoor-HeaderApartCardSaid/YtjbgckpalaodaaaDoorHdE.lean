/-
  header: Number and Text, the program's.
-/
import Derived.Test.YtjbgckpalaodaaaDoorHdD
import Derived.Test.YtjbgckpalaodaaaDoorHdB
set_option maxRecDepth 100000
set_option linter.unusedVariables false
set_option linter.unusedSimpArgs false
namespace Go.Proofs.YtjbgckpalaodaaaDoor.B
open Go Go.Proofs Go.Proofs.YtjbgckpalaodaaaDoorEng Go.RowKit

/-! ### rows of strings -/
def strs (ls : List (List UInt8)) : List Value := ls.map fun l => .string (bs l)
theorem strs_length (ls : List (List UInt8)) : (strs ls).length = ls.length := by simp [strs]
theorem strs_append (a b : List (List UInt8)) : strs (a ++ b) = strs a ++ strs b := by simp [strs]
theorem info9 : (Tryd.prog.info? 9).map (fun i => (i.zero, i.size, i.bytes)) = some (some (.string ⟨#[]⟩), 1, 16) := by kernel_rfl
theorem strs_push {w : World} {base n : Nat} {v : Value} {ls : List (List UInt8)} {l : List UInt8} {K : Value → World → Prop} {E : PanW} (ho : w.ownsRow base 9 1 v n (strs ls)) (hn : n ≤ 1000000) (hbase : base ≤ w.heap.size)
    (hK : ∀ a' c' w', w'.ownsRow base 9 1 (.slice a' (n + 1) c') (n + 1) (strs (ls ++ [l])) → Chg (fun k => base ≤ k) w w' → K (.slice a' (n + 1) c') w') :
    runV Tryd.prog (Builtin.append_ #[38, 38] 38 #[v, .slice (some ⟨w.heap.size, 0, none⟩) 1 1]) (w.alloc (.cells #[.string (bs l)] 9)) K E := by
  have hca := chg_alloc w (.cells #[.string (bs l)] 9) NoS
  refine row_append (z := .string ⟨#[]⟩) (size := 1) (bytes := 16) (base := base) (news := [.string (bs l)]) Tryd.underlying38 Tryd.underlying38 info9 rfl (own_of_chg ho hca fun _ _ x => x) rfl (reads_lit (blk_alloc w _)) (fun e => by cases e) (fun u hu => by simp at hu; subst hu; rfl) (by omega) (by omega) (by rw [size_alloc]; omega) ?_
  intro a' c' w' ho' hc' hb'
  refine hK a' c' w' (by rw [strs_append]; exact ho') ?_
  exact (hca.mono fun _ _ x => x.elim).trans (hc'.mono fun k _ hk => (own_lt' ho hk).2)
theorem Join_own {w : World} {base n : Nat} {a : Option Addr} {c : Nat} {ls : List (List UInt8)} {sep : List UInt8} (ho : w.ownsRow base 9 1 (.slice a n c) n (strs ls)) (hn : ls.length ≤ 1000000) (hl : (Lib.join ls sep).length ≤ 140737488355328) :
    Calls Tryd.prog 20 #[.slice a n c, .string (bs sep)] w (endW (fun v w' => v = .string (bs (Lib.join ls sep)) ∧ Chg NoS w w') (fun _ _ => False)) := by
  have hlen : ls.length = n := by have := ho.1; rw [strs_length] at this; omega
  rcases ho.2 with ⟨he, h0⟩ | ⟨g, cap, cur, he, hg, hh, hnc, hm, hsz, ht⟩
  · have : ls = [] := List.eq_nil_of_length_eq_zero (by omega)
    subst this
    subst h0
    refine Calls.mono (Tryd.strings_Join_none a c (bs sep) w) ?_
    rintro e w' ⟨rfl, rfl⟩
    exact ⟨rfl, Chg.refl _ _⟩
  · injection he with he1 he2 he3
    subst he1 he3
    have hxl : (ls.map bs).length = n := by simp [hlen]
    have hmap : (ls.map bs).map (·.data.toList) = ls := by
      rw [List.map_map]
      conv => rhs; rw [← List.map_id ls]
      apply List.map_congr_left
      intro x _
      simp [bs]
    have hj := Tryd.strings_Join g 0 c (ls.map bs) (bs sep) w (fun j x hx => by
      rw [List.getElem?_map] at hx
      obtain ⟨l, hl, rfl⟩ := Option.map_eq_some_iff.1 hx
      obtain ⟨A, hA, hc⟩ := own_cell ho (j := j) (u := .string (bs l)) (by simp [strs, hl])
      cases hA
      rw [addK_lit] at hc
      exact hc) (lt_of_blk hh) (by omega) (by omega) (by rw [hmap]; simpa [bs] using hl)
    rw [hxl, hmap] at hj
    refine Calls.mono hj ?_
    rintro e w' ⟨rfl, hbel⟩
    refine ⟨?_, below_new hbel⟩
    simp [bs]

/-! ### names and numbers -/
def names : List (List UInt8) := [[115, 114, 99], [100, 115, 116], [107, 105, 110, 100], [118, 108, 97, 110], [102, 114, 111, 109], [116, 111], [112, 114, 111, 116, 111], [115, 112, 111, 114, 116], [100, 112, 111, 114, 116], [112, 111, 114, 116], [115, 119, 105, 116, 99, 104]]
def nam (k : Nat) : List UInt8 := names.getD k []
theorem nam_get : ∀ k, k < 11 → (strs names)[k]? = some (.string (bs (nam k)))
  | 0, _ => rfl | 1, _ => rfl | 2, _ => rfl | 3, _ => rfl | 4, _ => rfl | 5, _ => rfl | 6, _ => rfl | 7, _ => rfl | 8, _ => rfl | 9, _ => rfl | 10, _ => rfl
  | k + 11, hk => by omega
theorem nam_len : ∀ k, k < 11 → 0 < (nam k).length ∧ (nam k).length ≤ 6
  | 0, _ => by decide | 1, _ => by decide | 2, _ => by decide | 3, _ => by decide | 4, _ => by decide | 5, _ => by decide | 6, _ => by decide | 7, _ => by decide | 8, _ => by decide | 9, _ => by decide | 10, _ => by decide
  | k + 11, hk => by omega
theorem Names_ok (w : World) : Calls Tryd.prog 18 #[] w (endW (fun v w' => v = .agg (strs names).toArray ∧ Chg NoS w w') (fun _ _ => False)) := by
  refine F18_calls ?_
  delta F18
  refine (sets_blk (b := w.heap.size) (t := 40) (cs := #[.string ⟨#[]⟩, .string ⟨#[]⟩, .string ⟨#[]⟩, .string ⟨#[]⟩, .string ⟨#[]⟩, .string ⟨#[]⟩, .string ⟨#[]⟩, .string ⟨#[]⟩, .string ⟨#[]⟩, .string ⟨#[]⟩, .string ⟨#[]⟩]) (vs := strs names) (blk_alloc w _) rfl (by simp [oneC, strs, names]) fun w' b' c' z' => ?_ : setsW _ _ _ _ _)
  have hc : ∀ k v, (strs names)[k]? = some v → w'.cell? (addK ⟨w.heap.size, 0, none⟩ k) = some v := fun k v hv => by
    rw [addK_lit, Nat.zero_add, cell_blk b']
    simpa using hv
  refine ⟨_, hc 0 _ rfl, _, hc 1 _ rfl, _, hc 2 _ rfl, _, hc 3 _ rfl, _, hc 4 _ rfl, _, hc 5 _ rfl, _, hc 6 _ rfl, _, hc 7 _ rfl, _, hc 8 _ rfl, _, hc 9 _ rfl, _, hc 10 _ rfl, rfl, ?_⟩
  exact (chg_alloc w _ _).trans2 c' fun k hk e => by
    have : k = w.heap.size := e
    omega
def macPart (n i : Nat) : List UInt8 := hexs (n / 2 ^ (40 - 8 * i) % 256) 2
def ipPart (n i : Nat) : List UInt8 := Lib.decDigits (n / 2 ^ (24 - 8 * i) % 256)
def numTxt (f n : Nat) : List UInt8 := if f = 0 ∨ f = 1 then Lib.join ((List.range 6).map (macPart n)) [58] else if f = 4 ∨ f = 5 then Lib.join ((List.range 4).map (ipPart n)) [46] else Lib.decDigits n
theorem dec_le (n : Nat) (h : n < 18446744073709551616) : (Lib.decDigits n).length ≤ 20 := by rw [Lib.decDigits_length]; exact nDigits_le n h
theorem join_le (ls : List (List UInt8)) (sep : List UInt8) (k : Nat) (h : ∀ l ∈ ls, l.length ≤ k) : (Lib.join ls sep).length ≤ ls.length * (sep.length + k) := by
  cases ls with
  | nil => simp [Lib.join_nil]
  | cons x r =>
    rw [Lib.join_length]
    have hs : ∀ (r : List (List UInt8)), (∀ l ∈ r, l.length ≤ k) → Lib.lens r ≤ r.length * k := by
      intro r
      induction r with
      | nil => intro _; simp [Lib.lens]
      | cons y r ih =>
        intro hr
        have h1 := ih fun l hl => hr l (List.mem_cons_of_mem _ hl)
        have h2 := hr y List.mem_cons_self
        simp only [Lib.lens, List.map_cons, List.sum_cons, List.length_cons] at h1 ⊢
        rw [Nat.succ_mul]
        omega
    have h3 := hs (x :: r) h
    simp only [List.length_cons] at h3 ⊢
    rw [Nat.mul_add, Nat.mul_comm sep.length r.length, Nat.succ_mul r.length sep.length]
    omega
theorem mac_len (n i : Nat) : (macPart n i).length = 2 := hexs_length _ _
theorem ip_len (n i : Nat) : (ipPart n i).length ≤ 20 := dec_le _ (by have : n / 2 ^ (24 - 8 * i) % 256 < 256 := Nat.mod_lt _ (by omega); omega)
theorem byte_of {n i m : Nat} (hn : n < 18446744073709551616) (hi : i * 8 ≤ m) (hm : m ≤ 40) {s : Int} (hs : s = ((m - 8 * i : Nat) : Int)) :
    IntKind.wrap .u64 ((BitVec.ofInt 64 (Int.fdiv (n : Int) ((2 : Int) ^ min (IntKind.wrap .u64 s).toNat 64)) &&& BitVec.ofInt 64 255).toNat : Int) = ((n / 2 ^ (m - 8 * i) % 256 : Nat) : Int) := by
  subst hs
  have hq : n / 2 ^ (m - 8 * i) < 18446744073709551616 := Nat.lt_of_le_of_lt (Nat.div_le_self _ _) hn
  rw [show IntKind.wrap .u64 ((m - 8 * i : Nat) : Int) = ((m - 8 * i : Nat) : Int) from w64 _ (by omega), Int.toNat_natCast, Nat.min_eq_left (by omega), fdiv_nat, and_low 8 (by omega) hq (z := 255) rfl]
  have : n / 2 ^ (m - 8 * i) % 2 ^ 8 < 256 := Nat.mod_lt _ (by omega)
  rw [w64 _ (by omega)]
theorem chg_base {B : Nat} {w w1 w' : World} (h : Chg (fun k => B ≤ k) w w1) (h2 : Chg NoS w1 w') : Chg (fun k => B ≤ k) w w' := h.trans (h2.mono fun _ _ x => x.elim)
theorem chg_new {w w' : World} (h : Chg (fun k => w.heap.size ≤ k) w w') : Chg NoS w w' := h.mono fun k hk h => by omega

theorem Number_ok (w : World) (f n : Nat) (hf : f < 11) (hn : n < 18446744073709551616) (hT : Tab w) :
    Calls Tryd.prog 19 #[.int .i8 (f : Int), .int .u64 (n : Int)] w (endW (fun v w' => v = .string (bs (numTxt f n)) ∧ Chg NoS w w') (fun _ _ => False)) := by
  refine F19_calls _ _ ?_
  delta F19
  refine ⟨fun s w' => w' = w ∧ s = decide (f = 0 ∨ f = 1), ?_, ?_⟩
  · rintro s w' ⟨rfl, rfl⟩ _
    by_cases h01 : f = 0 ∨ f = 1
    · rw [if_pos (by simp [h01])]
      have hnum : numTxt f n = Lib.join ((List.range 6).map (macPart n)) [58] := by unfold numTxt; rw [if_pos h01]
      rw [hnum]
      refine ⟨fun s w1 => ∃ i : Nat, s.2.2.2 = 40 - 8 * (i : Int) ∧ i ≤ 6 ∧ Chg (fun k => w'.heap.size ≤ k) w' w1 ∧ w1.ownsRow w'.heap.size 9 1 (.slice s.1 s.2.1 s.2.2.1) i (strs ((List.range i).map (macPart n))), fun s _ => (s.2.2.2 + 8).toNat,
        ⟨(none, 0, 0, 40), ⟨rfl, rfl, trivial⟩, 0, rfl, by omega, Chg.refl _ _, own_nil' _ _ _ _⟩, ?_⟩
      rintro ⟨a, m, c, z⟩ w1 ⟨i, hz, hi, hc, ho⟩ _
      dsimp only at hz ho ⊢
      subst hz
      by_cases h6 : i = 6
      · subst h6
        rw [if_neg (by simp)]
        obtain ⟨a', c', e, _, _⟩ := own_form ho
        injection e with e1 e2 e3
        subst e2
        refine Calls.then (Join_own (sep := [58]) ho (by simp) ?_) ?_
        · have := join_le ((List.range 6).map (macPart n)) [58] 2 (fun l hl => by simp at hl; obtain ⟨i, _, rfl⟩ := hl; rw [mac_len]; omega)
          simp at this ⊢
          omega
        · rintro v w2 ⟨rfl, hc2⟩
          exact ⟨_, rfl, rfl, chg_new (chg_base hc hc2)⟩
      · rw [if_pos (by simp; omega)]
        have hb := byte_of (i := i) (m := 40) hn (by omega) (by omega) (s := 40 - 8 * (i : Int)) (by omega)
        rw [hb]
        refine ⟨by rw [show (40 - 8 * (i : Int)) = ((40 - 8 * i : Nat) : Int) from by omega, w64 _ (by omega)]; omega, ?_⟩
        have hlt : n / 2 ^ (40 - 8 * i) % 256 < 256 := Nat.mod_lt _ (by omega)
        refine Calls.then (hex_ok w1 _ 2 (by omega) (by omega)) ?_
        rintro v w2 ⟨rfl, hc2⟩
        refine ⟨_, rfl, ?_⟩
        obtain ⟨a', c', e, _, _⟩ := own_form ho
        injection e with e1 e2 e3
        subst e2
        refine strs_push (own_of_chg ho hc2 fun _ _ x => x) (by omega) (by have := hc.size; have := hc2.size; omega) ?_
        intro a2 c2 w3 ho3 hc3
        refine ⟨_, _, _, rfl, (a2, m + 1, c2, 40 - 8 * ((m + 1 : Nat) : Int)), ⟨rfl, by show Value.int .i64 (40 - 8 * ((m + 1 : Nat) : Int)) = _; rw [i64w _ (by omega) (by omega)]; congr 1; omega, trivial⟩, ⟨m + 1, rfl, by omega, (chg_base hc hc2).trans hc3, ?_⟩, by show (40 - 8 * ((m + 1 : Nat) : Int) + 8).toNat < (40 - 8 * (m : Int) + 8).toNat; omega⟩
        rw [List.range_succ, List.map_append]
        exact ho3
    · rw [if_neg (by simp [h01])]
      refine ⟨fun s w1 => w1 = w' ∧ s = decide (f = 4 ∨ f = 5), ?_, ?_⟩
      · rintro s w0 ⟨rfl, rfl⟩ _
        by_cases h45 : f = 4 ∨ f = 5
        · rw [if_pos (by simp [h45])]
          have hnum : numTxt f n = Lib.join ((List.range 4).map (ipPart n)) [46] := by unfold numTxt; rw [if_neg h01, if_pos h45]
          rw [hnum]
          refine ⟨fun s w1 => ∃ i : Nat, s.2.2.2 = 24 - 8 * (i : Int) ∧ i ≤ 4 ∧ Chg (fun k => w0.heap.size ≤ k) w0 w1 ∧ w1.ownsRow w0.heap.size 9 1 (.slice s.1 s.2.1 s.2.2.1) i (strs ((List.range i).map (ipPart n))), fun s _ => (s.2.2.2 + 8).toNat,
            ⟨(none, 0, 0, 24), ⟨rfl, rfl, trivial⟩, 0, rfl, by omega, Chg.refl _ _, own_nil' _ _ _ _⟩, ?_⟩
          rintro ⟨a, m, c, z⟩ w1 ⟨i, hz, hi, hc, ho⟩ _
          dsimp only at hz ho ⊢
          subst hz
          by_cases h6 : i = 4
          · subst h6
            rw [if_neg (by simp)]
            obtain ⟨a', c', e, _, _⟩ := own_form ho
            injection e with e1 e2 e3
            subst e2
            refine Calls.then (Join_own (sep := [46]) ho (by simp) ?_) ?_
            · have := join_le ((List.range 4).map (ipPart n)) [46] 20 (fun l hl => by simp at hl; obtain ⟨i, _, rfl⟩ := hl; exact ip_len n i)
              simp at this ⊢
              omega
            · rintro v w2 ⟨rfl, hc2⟩
              exact ⟨_, rfl, rfl, chg_new (chg_base hc hc2)⟩
          · rw [if_pos (by simp; omega)]
            have hb := byte_of (i := i) (m := 24) hn (by omega) (by omega) (s := 24 - 8 * (i : Int)) (by omega)
            rw [hb]
            refine ⟨by rw [show (24 - 8 * (i : Int)) = ((24 - 8 * i : Nat) : Int) from by omega, w64 _ (by omega)]; omega, ?_⟩
            have hlt : n / 2 ^ (24 - 8 * i) % 256 < 256 := Nat.mod_lt _ (by omega)
            refine Calls.then (FormatUint_ok w1 _ (by omega) (hT.chg (chg_new hc))) ?_
            rintro v w2 ⟨rfl, hc2⟩
            refine ⟨_, rfl, ?_⟩
            obtain ⟨a', c', e, _, _⟩ := own_form ho
            injection e with e1 e2 e3
            subst e2
            refine strs_push (own_of_chg ho hc2 fun _ _ x => x) (by omega) (by have := hc.size; have := hc2.size; omega) ?_
            intro a2 c2 w3 ho3 hc3
            refine ⟨_, _, _, rfl, (a2, m + 1, c2, 24 - 8 * ((m + 1 : Nat) : Int)), ⟨rfl, by show Value.int .i64 (24 - 8 * ((m + 1 : Nat) : Int)) = _; rw [i64w _ (by omega) (by omega)]; congr 1; omega, trivial⟩, ⟨m + 1, rfl, by omega, (chg_base hc hc2).trans hc3, ?_⟩, by show (24 - 8 * ((m + 1 : Nat) : Int) + 8).toNat < (24 - 8 * (m : Int) + 8).toNat; omega⟩
            rw [List.range_succ, List.map_append]
            exact ho3
        · rw [if_neg (by simp [h45])]
          have hnum : numTxt f n = Lib.decDigits n := by unfold numTxt; rw [if_neg h01, if_neg h45]
          rw [hnum]
          refine Calls.then (FormatUint_ok w0 n hn hT) ?_
          rintro v w1 ⟨rfl, hc⟩
          exact ⟨_, rfl, rfl, hc⟩
      · by_cases h4 : f = 4
        · rw [if_pos (by simp [h4])]
          exact ⟨_, ⟨rfl, trivial⟩, rfl, by subst h4; rfl⟩
        · rw [if_neg (by simp; omega)]
          refine ⟨_, ⟨rfl, trivial⟩, rfl, ?_⟩
          have := beq_nat f 5
          rw [show ((f : Int) == 5) = decide (f = 5) from this]
          simp [h4]
  · by_cases h0 : f = 0
    · rw [if_pos (by simp [h0])]
      exact ⟨_, ⟨rfl, trivial⟩, rfl, by subst h0; rfl⟩
    · rw [if_neg (by simp; omega)]
      refine ⟨_, ⟨rfl, trivial⟩, rfl, ?_⟩
      have := beq_nat f 1
      rw [show ((f : Int) == 1) = decide (f = 1) from this]
      simp [h0]
end Go.Proofs.YtjbgckpalaodaaaDoor.B
