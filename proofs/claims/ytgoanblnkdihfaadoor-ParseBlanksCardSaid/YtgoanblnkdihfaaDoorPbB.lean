/-
  parse: ParseBlanks walked.
-/
import Derived.Test.YtgoanblnkdihfaaDoorPbA
import Derived.Test.YtgoanblnkdihfaaDoorPaXh
import Derived.Test.YtgoanblnkdihfaaDoorBJ
import Derived.Test.YtgoanblnkdihfaaDoorScP
import Derived.Test.YtgoanblnkdihfaaDoorEngO
import Derived.Test.YtgoanblnkdihfaaDoorEngQ
set_option maxRecDepth 100000
set_option linter.unusedVariables false
set_option linter.unusedSimpArgs false
namespace Go.Proofs.YtgoanblnkdihfaaDoor.B
open Go Go.Proofs Go.Proofs.YtgoanblnkdihfaaDoorEng Go.RowKit

theorem bT : ByteT Tryd.prog 23 5 := ⟨by kernel_rfl, by kernel_rfl, by kernel_rfl⟩
theorem t23 : Tryd.prog.underlying 23 = some (.slice 5) := by kernel_rfl
theorem t9 : Tryd.prog.underlying 9 = some .string := by kernel_rfl
/-- a row of bytes of the call's own -/
def Lg (w0 w : World) (a : Option Addr) (n c : Nat) (l : List UInt8) : Prop := Chg NoS w0 w ∧ w.ownsRow w0.heap.size 5 1 (.slice a n c) n (YtgoanblnkdihfaaDoorEng.vals l)
theorem Lg.len {w0 w : World} {a : Option Addr} {n c : Nat} {l : List UInt8} (h : Lg w0 w a n c l) : l.length = n := by
  have := h.2.1
  rw [YtgoanblnkdihfaaDoorEng.vals_length] at this
  omega
theorem Lg.chg {w0 w w' : World} {a : Option Addr} {n c : Nat} {l : List UInt8} (h : Lg w0 w a n c l) (hc : Chg NoS w w') : Lg w0 w' a n c l := ⟨h.1.trans hc, own_of_chg h.2 hc fun _ _ x => x⟩
theorem lg_src {w0 w w1 : World} {a : Option Addr} {n c m : Nat} {l ns : List UInt8} {tx : TypeId} {x : Value} (h : Lg w0 w a n c l) (hc1 : Chg NoS w w1) (hm : ns.length = m) (hs : Src Tryd.prog 1 tx x m (YtgoanblnkdihfaaDoorEng.vals ns) w1) (hb : n + m ≤ 1099511627776) {K : Value → World → Prop} {E : PanW}
    (hK : ∀ a' c' w', Lg w0 w' a' (n + m) c' (l ++ ns) → K (.slice a' (n + m) c') w') : runV Tryd.prog (Builtin.append_ #[23, tx] 23 #[.slice a n c, x]) w1 K E := by
  have h1 := h.chg hc1
  obtain ⟨i, hi, hz, hs', hby⟩ := info_open' bT.info
  refine append_own (base := w0.heap.size) (n := n) (m := m) bT.und hi hz hs' rfl h1.2 hs (by rw [hby]; omega) (by omega) h1.1.size ?_
  intro v' w' ho' hc hb1 hb2
  obtain ⟨a', c', rfl, _, _⟩ := own_form ho'
  refine hK a' c' w' ⟨h1.1.trans2 hc fun k hk e => ?_, by rw [YtgoanblnkdihfaaDoorEng.vals_append]; exact ho'⟩
  have := (own_lt' h1.2 e).2
  omega
theorem lg_lit {w0 w : World} {a : Option Addr} {n c m : Nat} {l ns : List UInt8} (h : Lg w0 w a n c l) {cs : Array Value} (hcs : cs.toList = YtgoanblnkdihfaaDoorEng.vals ns) (hm : ns.length = m) (hb : n + m ≤ 1099511627776) {K : Value → World → Prop} {E : PanW}
    (hK : ∀ a' c' w', Lg w0 w' a' (n + m) c' (l ++ ns) → K (.slice a' (n + m) c') w') : runV Tryd.prog (Builtin.append_ #[23, 23] 23 #[.slice a n c, .slice (some ⟨w.heap.size, 0, none⟩) m m]) (w.alloc (.cells cs 5)) K E :=
  lg_src h (chg_alloc w _ _) hm (src_slice t23 (by rw [YtgoanblnkdihfaaDoorEng.vals_length]; omega) (by rw [← hcs]; exact reads_lit (blk_alloc w _)) (fun e => by cases e) (YtgoanblnkdihfaaDoorEng.vals_one ns)) hb hK
theorem lg_str {w0 w : World} {a : Option Addr} {n c : Nat} {l ns : List UInt8} (h : Lg w0 w a n c l) (hb : n + ns.length ≤ 1099511627776) {K : Value → World → Prop} {E : PanW}
    (hK : ∀ a' c' w', Lg w0 w' a' (n + ns.length) c' (l ++ ns) → K (.slice a' (n + ns.length) c') w') : runV Tryd.prog (Builtin.append_ #[23, 9] 23 #[.slice a n c, .string (bs ns)]) w K E := by
  have hs := Src.ofString (P := Tryd.prog) w t9 (bs ns)
  rw [bs_size] at hs
  have e : byteCells (bs ns) = YtgoanblnkdihfaaDoorEng.vals ns := by unfold byteCells YtgoanblnkdihfaaDoorEng.vals; simp [bs]
  rw [e] at hs
  exact lg_src h (Chg.refl NoS w) rfl hs hb hK
theorem chain {w0 w1 : World} {a : Option Addr} {n c : Nat} {l rm : List UInt8} (h : Lg w0 w1 a n c l) (hb : n + rm.length ≤ 1000000000) {K : Option Addr → Nat → Nat → World → Prop} {E : PanW} (hK : ∀ a' n' c' w', Lg w0 w' a' n' c' (l ++ (9 :: 32 :: 35 :: (rm ++ [10, 32]))) → K a' n' c' w') :
    runV Tryd.prog (Builtin.append_ #[23, 9] 23 #[.slice a n c, .string { data := #[(9 : UInt8), (32 : UInt8), (35 : UInt8)] }]) w1 (fun v w_2 => ∃ a n c, v = .slice a n c ∧ runV Tryd.prog (Builtin.append_ #[23, 9] 23 #[.slice a n c, .string (bs rm)]) w_2 (fun v w_3 => ∃ a n c, v = .slice a n c ∧ runV Tryd.prog (Builtin.append_ #[23, 23] 23 #[.slice a n c, .slice (some ⟨w_3.heap.size, 0, none⟩) 2 2]) (w_3.alloc (.cells #[.int .u8 10, .int .u8 32] 5)) (fun v w_4 => ∃ a n c, v = .slice a n c ∧ K a n c w_4) E) E) E := by
  refine lg_str (ns := [9, 32, 35]) h (by simp; omega) fun a2 c2 w2 h2 => ⟨_, _, _, rfl, ?_⟩
  refine lg_str h2 (by simp; omega) fun a3 c3 w3 h3 => ⟨_, _, _, rfl, ?_⟩
  refine lg_lit (ns := [10, 32]) h3 rfl rfl (by simp; omega) fun a4 c4 w4 h4 => ⟨_, _, _, rfl, hK _ _ _ _ ?_⟩
  have e : l ++ [9, 32, 35] ++ rm ++ [10, 32] = l ++ (9 :: 32 :: 35 :: (rm ++ [10, 32])) := by simp
  rw [← e]
  exact h4
theorem conv_run {w : World} {a : Option Addr} {n c : Nat} {l : List UInt8} (hn : l.length = n) (hr : Reads w a (YtgoanblnkdihfaaDoorEng.vals l)) : (convert 23 9 (.slice a n c)).run Tryd.prog w = .ok (.string (bs l)) w := by
  have h := bytes_str (K := fun v w' => v = .string (bs l) ∧ w' = w) (E := fun _ _ => False) (c := c) bT t9 hn hr ⟨rfl, rfl⟩
  unfold runV at h
  split at h
  · rename_i v w' e
    rw [e, h.1, h.2]
  · exact h.elim
  · exact h.elim
theorem ex_len (rm : List UInt8) : ∀ l : List UInt8, (ex rm l).length ≤ l.length * (rm.length + 6)
  | [] => by simp [ex]
  | c :: l => by
    have := ex_len rm l
    rw [ex_cons, List.length_append, List.length_cons, Nat.add_mul, Nat.one_mul]
    have : (e1 rm c).length ≤ rm.length + 6 := by
      unfold e1
      split <;> simp
    omega
/-- what stands in an answer of Policy, also where it is a fault -/
theorem RetF.inf2 {w w' : World} {o : Fo} {v : Value} (h : RetF w o v w') : Chg NoS w w' ∧ ∃ u qa c e m q, v = .tuple #[.agg (parr u qa (bsQ q).length c), e] ∧ u.is w' m ∧ QsAt w' (bsQ q) qa ∧ (bsQ q).length ≤ 70000 ∧ ((o = .ok m q ∧ e = .nilIface) ∨ ((∃ a b c, o = .fault a b c) ∧ m = .mk 0 0 0 [] ∧ q = [] ∧ ∃ t z, e = .iface t z)) := by
  obtain ⟨hc, h⟩ := h
  refine ⟨hc, ?_⟩
  cases o with
  | ok main qs =>
    obtain ⟨u, qa, c, rfl, h1, h2, h3⟩ := h
    exact ⟨u, qa, c, _, main, qs, by rw [bsQ_len], h1, h2, by rw [bsQ_len]; exact h3, .inl ⟨rfl, rfl⟩⟩
  | fault code pos txt =>
    obtain ⟨p, rfl, _, h2⟩ := h
    exact ⟨⟨0, 0, 0, none, 0, 0⟩, none, 0, _, .mk 0 0 0 [], [], rfl, by simp [V4.is, TVal, KsAt], fun j q hq => by simp [bsQ] at hq, by simp [bsQ], .inr ⟨⟨_, _, _, rfl⟩, rfl, rfl, _, _, rfl⟩⟩
theorem ParseBlanks_w (s r : ByteArray) (w : World) (hL : Libs w) : Calls Tryd.prog 3 #[.string s, .string r] w (endW (fun v w' => v = .bool true ∧ Chg NoS w w') (fun _ _ => False)) := by
  obtain ⟨t, rfl⟩ : ∃ t, s = bs t := ⟨_, (bs_data s).symm⟩
  obtain ⟨rm, rfl⟩ : ∃ t, r = bs t := ⟨_, (bs_data r).symm⟩
  refine F3_calls _ _ ?_
  delta F3
  refine ⟨fun _ w' => w = w' ∧ t.length ≤ 4096 ∧ rm.length ≤ 100, ?_, ?_⟩
  · rintro _ _ ⟨rfl, hlt, hlr⟩ _
    refine ⟨fun s w' => w = w' ∧ ∃ i : Nat, s = (i : Int) ∧ i ≤ rm.length ∧ ∀ j, j < i → g rm j ≠ 10, fun s _ => rm.length - s.toNat, ⟨0, ⟨rfl, trivial⟩, rfl, 0, rfl, by omega, fun j h => by omega⟩, ?_⟩
    rintro s _ ⟨rfl, i, rfl, hi, hi2⟩ _
    by_cases hc : decide ((i : Int) < ((bs rm).size : Int)) = true
    · refine (if_pos hc).mpr ?_
      have hlt' : i < rm.length := by simp [bs_size] at hc; omega
      refine ⟨by omega, by rw [bs_size]; omega, ?_⟩
      rw [g_at, show (10 : Int) = ((10 : Nat) : Int) from rfl, beq_nat]
      by_cases h10 : g rm i = 10
      · rw [if_pos (by simp [h10])]
        exact wake2 hL (Chg.refl NoS w)
      · rw [if_neg (by simp [h10])]
        exact ⟨((i + 1 : Nat) : Int), ⟨by rw [i64w _ (by omega) (by omega)]; rfl, trivial⟩, ⟨rfl, i + 1, rfl, by omega, fun j hj => by
          rcases Nat.lt_or_eq_of_le (Nat.le_of_lt_succ hj) with h | h
          · exact hi2 j h
          · subst h; exact h10⟩, by simp; omega⟩
    · refine (if_neg hc).mpr ?_
      have mem_g : ∀ (l : List UInt8) (x : UInt8), x ∈ l → ∃ j, j < l.length ∧ g l j = x.toNat := fun l x hx => by
        obtain ⟨j, hj, e⟩ := List.mem_iff_getElem.1 hx
        exact ⟨j, hj, by unfold g; simp [List.getD, List.getElem?_eq_getElem hj, e]⟩
      have hrm : ∀ x ∈ rm, x.toNat ≠ 10 := fun x hx => by
        obtain ⟨j, hj, e⟩ := mem_g rm x hx
        rw [← e]
        exact hi2 j (by simp [bs_size] at hc; omega)
      refine ⟨fun s w' => ∃ i : Nat, s.2.2.2 = (i : Int) ∧ i ≤ t.length ∧ (∀ j, j < i → g t j ≠ 35) ∧ Lg w w' s.1 s.2.1 s.2.2.1 (ex rm (t.take i)), fun s _ => t.length - s.2.2.2.toNat, ⟨(none, 0, 0, 0), ⟨rfl, rfl, trivial⟩, 0, rfl, by omega, fun j h => by omega, Chg.refl NoS w, own_nil' _ _ _ _⟩, ?_⟩
      rintro ⟨a, n, c, si⟩ w1 ⟨i, hsi, hil, h35, ho⟩ _
      dsimp only at hsi ho
      subst hsi
      have hln := ho.len
      by_cases hc : decide ((i : Int) < ((bs t).size : Int)) = true
      · refine (if_pos hc).mpr ?_
        have hlt' : i < t.length := by simp [bs_size] at hc; omega
        have I0 : (0 : Int) ≤ (i : Int) := by omega
        have I1 : (i : Int) < ((bs t).size : Int) := by rw [bs_size]; omega
        have hbl : n ≤ 4096 * 106 := by
          have h1 := ex_len rm (t.take i)
          rw [hln] at h1
          have h2 : (t.take i).length * (rm.length + 6) ≤ 4096 * 106 := Nat.mul_le_mul (by rw [List.length_take]; omega) (by omega)
          omega
        have htk : ex rm (t.take (i + 1)) = ex rm (t.take i) ++ e1 rm t[i] := by
          rw [List.take_add_one, List.getElem?_eq_getElem hlt', ex_app]
          congr 1
          simp [ex]
        have hgt : g t i = t[i].toNat := by unfold g; simp [List.getD, List.getElem?_eq_getElem hlt']
        refine ⟨I0, I1, ?_⟩
        rw [g_at, show (35 : Int) = ((35 : Nat) : Int) from rfl, beq_nat]
        by_cases h35i : g t i = 35
        · rw [if_pos (by simp [h35i])]
          exact wake2 hL ho.1
        · rw [if_neg (by simp [h35i])]
          have h35' : ∀ j, j < i + 1 → g t j ≠ 35 := fun j hj => by
            rcases Nat.lt_or_eq_of_le (Nat.le_of_lt_succ hj) with h | h
            · exact h35 j h
            · subst h; exact h35i
          refine ⟨I0, I1, ?_⟩
          refine lg_lit (m := 1) (ns := [t[i]]) ho (by rw [hgt]; rfl) rfl (by omega) fun a2 c2 w2 h2 => ⟨_, _, _, rfl, I0, I1, ?_⟩
          have next : ∀ (a' : Option Addr) (n' c' : Nat) (w' : World), Lg w w' a' n' c' (ex rm (t.take (i + 1))) → ∃ s' : Option Addr × Nat × Nat × Int, (Value.slice s'.1 s'.2.1 s'.2.2.1 = Value.slice a' n' c' ∧ Value.int .i64 s'.2.2.2 = Value.int .i64 (IntKind.wrap .i64 ((i : Int) + 1)) ∧ True) ∧ (∃ i : Nat, s'.2.2.2 = (i : Int) ∧ i ≤ t.length ∧ (∀ j, j < i → g t j ≠ 35) ∧ Lg w w' s'.1 s'.2.1 s'.2.2.1 (ex rm (t.take i))) ∧ t.length - s'.2.2.2.toNat < t.length - (i : Int).toNat := fun a' n' c' w' hl => ⟨(a', n', c', ((i + 1 : Nat) : Int)), ⟨rfl, by rw [i64w _ (by omega) (by omega)]; rfl, trivial⟩, ⟨i + 1, rfl, by omega, h35', hl⟩, by simp; omega⟩
          rw [show (32 : Int) = ((32 : Nat) : Int) from rfl, show (10 : Int) = ((10 : Nat) : Int) from rfl, beq_nat, beq_nat]
          by_cases h32 : g t i = 32
          · rw [if_neg (by simp [h32])]
            refine chain h2 (by omega) fun a' n' c' w' hl => next a' n' c' w' ?_
            rw [htk]
            unfold e1
            rw [if_pos (.inl (by rw [← hgt]; exact h32))]
            rw [List.append_assoc] at hl
            exact hl
          · rw [if_pos (by simp [h32])]
            refine ⟨I0, I1, ?_⟩
            by_cases h10 : g t i = 10
            · rw [if_pos (by simp [h10])]
              refine chain h2 (by omega) fun a' n' c' w' hl => next a' n' c' w' ?_
              rw [htk]
              unfold e1
              rw [if_pos (.inr (by rw [← hgt]; exact h10))]
              rw [List.append_assoc] at hl
              exact hl
            · rw [if_neg (by simp [h10])]
              refine next _ _ _ _ ?_
              rw [htk]
              unfold e1
              rw [if_neg (by rw [← hgt]; omega)]
              exact h2
      · refine (if_neg hc).mpr ?_
        have hit : i = t.length := by simp [bs_size] at hc; omega
        subst hit
        rw [List.take_length] at ho hln
        have h35' : ∀ x ∈ t, x.toNat ≠ 35 := fun x hx => by
          obtain ⟨j, hj, e⟩ := mem_g t x hx
          rw [← e]
          exact h35 j hj
        by_cases hbig : decide ((n : Int) > 65536) = true
        · refine (if_pos hbig).mpr ?_
          exact wake2 hL ho.1
        · refine (if_neg hbig).mpr ?_
          have hn : n ≤ 65536 := by simp at hbig; omega
          have c01 := ho.1
          refine Calls.then (Policy_ok w1 t (hL.chg c01).1) ?_
          rintro v w2 ⟨o, hoP, hr⟩
          obtain ⟨c2, u1, q1, k1, e1', m1, l1, rfl, hu1, hq1, hl1, hx1⟩ := hr.inf2
          refine ⟨_, rfl, _, _, rfl, _, rfl, _, _, rfl, _, rfl, _, _, rfl, _, rfl, _, _, rfl, _, rfl, _, _, rfl, _, _, _, rfl, _, _, rfl, _, _, _, rfl, rfl, _, _, rfl, rfl, ?_⟩
          refine (put4 (w := w2) (vs := vs5 u1 q1 (bsQ l1).length k1) (cs := zs5) (blk_alloc w2 _) (chg_alloc w2 _ _) (Nat.le_refl _) rfl (by simp [oneC]) fun w3 b3 c3 _ _ => ?_ : setsW _ _ _ _ _)
          have c13 := c2.trans c3
          have ho3 := ho.chg c13
          dsimp only
          rw [conv_run (c := c) hln (own_reads' ho3.2)]
          refine ⟨_, rfl, ?_⟩
          obtain ⟨o', hoP', hso⟩ := blanks_is hrm h35' (by omega) (by omega) hoP
          refine Calls.then (Policy_is (hL.chg ho3.1).1 hoP') ?_
          intro v w4 hr2
          obtain ⟨c4, u2, q2, k2, e2, m2, l2, rfl, hu2, hq2, hl2, hx2⟩ := hr2.inf2
          refine ⟨_, rfl, _, _, rfl, _, rfl, _, _, rfl, _, rfl, _, _, rfl, _, rfl, _, _, rfl, _, rfl, _, _, rfl, _, _, _, rfl, _, _, rfl, _, _, _, rfl, rfl, _, _, rfl, rfl, ?_⟩
          refine (put4 (w := w4) (vs := vs5 u2 q2 (bsQ l2).length k2) (cs := zs5) (blk_alloc w4 _) (chg_alloc w4 _ _) (Nat.le_refl _) rfl (by simp [oneC]) fun w5 b5 c5 _ _ => ?_ : setsW _ _ _ _ _)
          have c35 := c4.trans c5
          have c05 := ho3.1.trans c35
          obtain ⟨hmm, hqq, hs1, hs2, hnil⟩ : m1 = m2 ∧ l1 = l2 ∧ (e1' = .nilIface ∨ ∃ t z, e1' = .iface t z) ∧ (e2 = .nilIface ∨ ∃ t z, e2 = .iface t z) ∧ isNilI e1' = isNilI e2 := by
            rcases hso with ⟨m, q, h1, h2⟩ | ⟨⟨x1, x2, x3, h1⟩, y1, y2, y3, h2⟩
            · rcases hx1 with ⟨h3, h4⟩ | ⟨⟨x1, x2, x3, h3⟩, _⟩
              · rcases hx2 with ⟨h5, h6⟩ | ⟨⟨y1, y2, y3, h5⟩, _⟩
                · rw [h1] at h3
                  rw [h2] at h5
                  injection h3 with k1 k2
                  injection h5 with k3 k4
                  exact ⟨k1.symm.trans k3, k2.symm.trans k4, .inl h4, .inl h6, by rw [h4, h6]⟩
                · rw [h2] at h5; cases h5
              · rw [h1] at h3; cases h3
            · rcases hx1 with ⟨h3, h4⟩ | ⟨_, h3, h4, t1, z1, h5⟩
              · rw [h1] at h3; cases h3
              · rcases hx2 with ⟨h6, h7⟩ | ⟨_, h6, h7, t2, z2, h8⟩
                · rw [h2] at h6; cases h6
                · exact ⟨h3.trans h6.symm, h4.trans h7.symm, .inr ⟨_, _, h5⟩, .inr ⟨_, _, h8⟩, by rw [h5, h8]; rfl⟩
          subst hmm
          subst hqq
          refine ⟨hs1, hs2, ?_⟩
          rw [if_pos (by rw [hnil]; simp)]
          have cd := chg_drew w5 NoS
          refine ⟨_, ld5 b3 (c35.trans cd) 0 _ rfl, _, ld5 b3 (c35.trans cd) 1 _ rfl, _, ld5 b3 (c35.trans cd) 2 _ rfl, _, _, _, ld5 b3 (c35.trans cd) 3 _ rfl, _, _, _, ld5 b3 (c35.trans cd) 4 _ rfl, _, ld5 b5 cd 0 _ rfl, _, ld5 b5 cd 1 _ rfl, _, ld5 b5 cd 2 _ rfl, _, _, _, ld5 b5 cd 3 _ rfl, _, _, _, ld5 b5 cd 4 _ rfl, ?_⟩
          refine Calls.then (Policies_ok (va := u1) (vb := u2) (ma := m1) (mb := m1) (qa := bsQ l1) (qb := bsQ l1) (hu1.keep ((c3.trans c35).trans cd)) (hu2.keep (c5.trans cd)) (hq1.keep ((c3.trans c35).trans cd)) (hq2.keep (c5.trans cd)) rfl rfl (by omega)) ?_
          rintro v w6 ⟨bb, rfl, hbb, c6⟩
          obtain rfl : bb = true := hbb.2 ⟨rfl, rfl⟩
          refine ⟨true, rfl, ?_⟩
          rw [if_pos rfl]
          exact wake2 hL ((c05.trans cd).trans c6)
  · by_cases ha : decide (((bs t).size : Int) > 4096) = false
    · rw [if_pos ha]
      by_cases hb : decide (((bs rm).size : Int) > 100) = true
      · rw [if_pos hb]
        exact wake2 hL (Chg.refl NoS w)
      · rw [if_neg hb]
        simp only [bs_size] at ha hb
        exact ⟨(), trivial, rfl, by simp at ha; omega, by simp at hb; omega⟩
    · rw [if_neg ha]
      exact wake2 hL (Chg.refl NoS w)
theorem ParseBlanks_walk (s0 : ByteArray) (s1 : ByteArray) (w : World) (i0 : Is maxLen Tryd.prog w 12 9 [.string s0]) (i1 : Is maxLen Tryd.prog w 12 9 [.string s1]) (hL : Libs w) :
    Calls Tryd.prog 3 #[.string s0, .string s1] w (endW (fun v w' => v = .bool true ∧ Chg NoS w w') (fun _ _ => False)) := ParseBlanks_w s0 s1 w hL
end Go.Proofs.YtgoanblnkdihfaaDoor.B
