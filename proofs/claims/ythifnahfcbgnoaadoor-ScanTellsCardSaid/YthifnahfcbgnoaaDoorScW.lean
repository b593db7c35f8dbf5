/-
  scan: the document's All, its loop.
-/
import Derived.Test.YthifnahfcbgnoaaDoorScV
set_option maxRecDepth 100000
set_option linter.unusedVariables false
set_option linter.unusedSimpArgs false
set_option maxHeartbeats 400000
namespace Go.Proofs.YthifnahfcbgnoaaDoor.B
open Go Go.Proofs Go.Proofs.YthifnahfcbgnoaaDoorEng Go.RowKit

/-- what the loop keeps: the row so far, the fault's cells, the words still to come -/
def RLoop (w0 : World) (q : Nat) (t : List UInt8) (a : Option Addr) (n c k : Nat) (w : World) : Prop :=
  ∃ ws : List Wd, w.ownsRow (q + 1) 39 4 (.slice a n c) n (wcells ws) ∧ n = ws.length ∧ n ≤ k ∧ k ≤ t.length ∧ Chg NoS w0 w ∧ (∃ d0 d1 d2, w.heap[q]? = some (.cells #[d0, d1, d2] 29 (0, 0))) ∧ q + 1 ≤ w.heap.size ∧ scan t 0 [] = scan t k ws
theorem RLoop.next {w0 w : World} {q n c k j : Nat} {t : List UInt8} {a : Option Addr} (h : RLoop w0 q t a n c k w) (hs : sk t false k = sk t false j) (hk : k ≤ j) (hj : j ≤ t.length) : RLoop w0 q t a n c j w := by
  obtain ⟨ws, h1, h2, h3, h4, h5, h6, h7, h8⟩ := h
  exact ⟨ws, h1, h2, by omega, hj, h5, h6, h7, by rw [h8, scan_sk hs]⟩
theorem closed_bad0 {t : List UInt8} {e m c j : Nat} (h : closedAt t e m = .bad c j) : c ≠ 0 := by
  unfold closedAt at h
  split at h <;> cases h
  decide
theorem dots_bad0 {t : List UInt8} {c j : Nat} : ∀ (n i at_ m : Nat), 4 - i ≤ n → dots t i at_ m = .bad c j → c ≠ 0
  | n, i, at_, m, hn, h => by
    rw [dots] at h
    split at h
    · split at h
      · dsimp only at h
        generalize (if i = 0 then at_ else at_ + 1) = b at h
        split at h
        · cases n with
          | zero => omega
          | succ n => exact dots_bad0 n _ _ _ (by omega) h
        · cases h; decide
      · cases h; decide
    · exact closed_bad0 h
theorem one_bad0 {t : List UInt8} {k c j : Nat} (h : oneAt t k = .bad c j) : c ≠ 0 := by
  unfold oneAt at h
  split at h
  · unfold numAt at h
    split at h
    · exact closed_bad0 h
    · split at h
      · unfold hexNum at h
        split at h
        · exact closed_bad0 h
        · cases h; decide
      · split at h
        · exact dots_bad0 4 _ _ _ (by omega) h
        · unfold decNum at h
          split at h
          · split at h
            · cases h; decide
            · exact closed_bad0 h
          · cases h; decide
  · repeat' split at h
    all_goals first | (cases h; decide) | cases h
theorem push2 {w : World} {base n : Nat} {v : Value} {ws : List Wd} {x : Wd} {K : Value → World → Prop} {E : PanW} (ho : w.ownsRow base 39 4 v n (wcells ws)) (hn : n ≤ 1000000) (hbase : base ≤ w.heap.size)
    (hK : ∀ a' c' w', w'.ownsRow base 39 4 (.slice a' (n + 1) c') (n + 1) (wcells (ws ++ [x])) → Chg (fun k => v.ownBlock = some k) w w' → K (.slice a' (n + 1) c') w') :
    runV Tryd.prog (Builtin.append_ #[22, 22] 22 #[v, .slice (some ⟨w.heap.size, 0, none⟩) 1 1]) (w.alloc (wobj x)) K E := by
  have hca := chg_alloc w (wobj x) NoS
  refine row_append (z := .agg #[.int .i8 0, .string ⟨#[]⟩, .int .u64 0, .int .i64 0]) (size := 4) (bytes := 40) (base := base) (news := [.int .i8 (x.kind : Int), .string (bs x.txt), .int .u64 (x.num : Int), .int .i64 (x.pos : Int)]) Tryd.underlying22 Tryd.underlying22 info39 rfl (own_of_chg ho hca fun _ _ x => x) rfl (reads_lit (blk_alloc w _)) (fun e => by cases e) (fun u hu => ?_) (by omega) (by omega) (by rw [size_alloc]; omega) ?_
  · simp only [List.mem_cons, List.mem_nil_iff, or_false] at hu
    rcases hu with rfl | rfl | rfl | rfl <;> rfl
  intro a' c' w' ho' hc' hb'
  refine hK a' c' w' (by rw [wcells_append]; exact ho') ?_
  exact (hca.mono fun _ _ x => x.elim).trans hc'
theorem put2 {w : World} {p q : Nat} (h2 : Two w p q) {a n z e f : Int} {s u : ByteArray} {K : World → Prop} (h : ∀ w', Chg (fun b => b = p ∨ b = q) w w' → w'.heap[p]? = some (.cells #[.int .i8 a, .string s, .int .u64 n, .int .i64 z] 39 (0, 0)) → w'.heap[q]? = some (.cells #[.int .i64 e, .int .i64 f, .string u] 29 (0, 0)) → K w') :
    setW w (addK ⟨p, 0, none⟩ 0) (.int .i8 a) fun w => setW w (addK ⟨p, 0, none⟩ 1) (.string s) fun w => setW w (addK ⟨p, 0, none⟩ 2) (.int .u64 n) fun w => setW w (addK ⟨p, 0, none⟩ 3) (.int .i64 z) fun w =>
      setW w (addK ⟨q, 0, none⟩ 0) (.int .i64 e) fun w => setW w (addK ⟨q, 0, none⟩ 1) (.int .i64 f) fun w => setW w (addK ⟨q, 0, none⟩ 2) (.string u) K := by
  obtain ⟨⟨c0, c1, c2, c3, hp⟩, ⟨d0, d1, d2, hq⟩, hpq⟩ := h2
  refine (sets_blk (b := p) (t := 39) (cs := #[c0, c1, c2, c3]) (vs := [.int .i8 a, .string s, .int .u64 n, .int .i64 z]) hp rfl (by simp [oneC]) fun w1 b1 cc1 z1 => ?_ : setsW _ _ _ _ _)
  have hq1 := cc1.blk hq (fun e => hpq e.symm)
  refine (sets_blk (b := q) (t := 29) (cs := #[d0, d1, d2]) (vs := [.int .i64 e, .int .i64 f, .string u]) hq1 rfl (by simp [oneC]) fun w2 b2 cc2 z2 => ?_ : setsW _ _ _ _ _)
  exact h w2 ((cc1.mono fun b _ hb => .inl hb).trans (cc2.mono fun b _ hb => .inr hb)) (cc2.blk b1 hpq) b2
theorem cellAt {w : World} {p t : Nat} {cs : Array Value} {sz : Nat × Nat} (hp : w.heap[p]? = some (.cells cs t sz)) (j : Nat) (v : Value) (hv : cs[j]? = some v) : w.cell? (addK ⟨p, 0, none⟩ j) = some v := by rw [addK_lit, Nat.zero_add, cell_blk hp]; exact hv
theorem rAll_ok (w : World) (t : List UInt8) : Calls Tryd.prog 8 #[.string (bs t)] w (endW (RAllV w (allR t)) (fun _ _ => False)) := by
  by_cases hlong : 65536 < t.length
  · exact rAll_long w t hlong
  have ht : t.length ≤ 65536 := by omega
  refine F8_calls _ ?_
  delta F8
  rw [bs_size, if_neg (by simp; omega)]
  have hb := blk_alloc w F29o
  have hc := chg_alloc w F29o NoS
  have hs : (w.alloc F29o).heap.size = w.heap.size + 1 := size_alloc w F29o
  change ∃ I : Option Addr × Nat × Nat × Int → World → Prop, ∃ μ : Option Addr × Nat × Nat × Int → World → Nat, (∃ s, _ ∧ I s (w.alloc F29o)) ∧ _
  generalize w.alloc F29o = w1 at hb hc hs ⊢
  refine ⟨fun s w' => ∃ k : Nat, s.2.2.2 = (k : Int) ∧ RLoop w w.heap.size t s.1 s.2.1 s.2.2.1 k w', fun s _ => (t.length - s.2.2.2).toNat, ⟨(none, 0, 0, 0), ⟨rfl, rfl, trivial⟩, 0, rfl, [], own_nil' _ _ _ _, rfl, Nat.le_refl 0, by omega, hc, ⟨_, _, _, hb⟩, by omega, rfl⟩, ?_⟩
  rintro ⟨a, n, c, z⟩ w2 ⟨k, hz, hl⟩ _
  dsimp only at hz hl ⊢
  subst hz
  by_cases hlt : k < t.length
  · rw [if_pos (by simp; omega)]
    refine ⟨by omega, by omega, ?_⟩
    rw [g_at]
    refine ⟨fun s w' => s = (k : Int) ∧ w' = w2 ∧ ¬ (g t k = 32 ∨ g t k = 9 ∨ g t k = 10 ∨ g t k = 13), ?_, ?_⟩
    · rintro _ w3 ⟨rfl, rfl, hnb⟩ _
      by_cases hh : g t k = 35
      · rw [if_pos (by simp [hh])]
        refine ⟨fun s w' => ∃ b : Nat, s = (b : Int) ∧ k ≤ b ∧ b ≤ t.length ∧ w' = w3 ∧ (k < b → sk t false k = sk t true b), fun s _ => (t.length - s).toNat, ⟨(k : Int), ⟨rfl, trivial⟩, k, rfl, by omega, by omega, rfl, fun h => by omega⟩, ?_⟩
        rintro _ w4 ⟨b, rfl, hkb, hbl, rfl, hsk⟩ _
        have out : (¬ b < t.length ∨ g t b = 10) → ∃ s' : Option Addr × Nat × Nat × Int, (Value.slice s'.1 s'.2.1 s'.2.2.1 = .slice a n c ∧ Value.int .i64 s'.2.2.2 = .int .i64 (b : Int) ∧ True) ∧ (∃ k : Nat, s'.2.2.2 = (k : Int) ∧ RLoop w w.heap.size t s'.1 s'.2.1 s'.2.2.1 k w4) ∧ (t.length - s'.2.2.2).toNat < (t.length - (k : Int)).toNat := fun h => by
          have hlb : k < b := by
            rcases Nat.lt_or_ge k b with h' | h'
            · exact h'
            · have : b = k := by omega
              subst this
              rcases h with h | h
              · exact absurd hlt h
              · omega
          exact ⟨(a, n, c, (b : Int)), ⟨rfl, rfl, trivial⟩, ⟨b, rfl, hl.next (by rw [hsk hlb, sk_true_end h]) hkb hbl⟩, by dsimp only; omega⟩
        by_cases hbt : b < t.length
        · rw [if_pos (by simp; omega)]
          refine ⟨by omega, by omega, ?_⟩
          rw [g_at]
          by_cases hx : g t b = 10
          · rw [if_neg (by simp [hx])]
            exact out (.inr hx)
          · rw [if_pos (by simp; omega)]
            refine ⟨((b + 1 : Nat) : Int), ⟨by rw [i64w _ (by omega) (by omega)]; rfl, trivial⟩, ⟨b + 1, rfl, by omega, by omega, rfl, fun _ => ?_⟩, by dsimp only; omega⟩
            rcases Nat.lt_or_ge k b with h | h
            · rw [hsk h, sk_rem hbt hx]
            · have : b = k := by omega
              subst this
              exact sk_hash hlt hh
        · rw [if_neg (by simp; omega)]
          exact out (.inl hbt)
      · rw [if_neg (by simp; omega)]
        have hst := sk_stop hlt (by omega) (by omega) hh
        refine Calls.then (rone_ok w3 t k hlt ht) ?_
        rintro v w4 ⟨hv, hc4⟩
        obtain ⟨h24, hcn⟩ := two_new w4
        obtain ⟨ws, h1, h2, h3, h4, h5, h6, h7, h8⟩ := hl
        refine take2 hv (fun kd e m ho => put2 h24 fun w5 hc5 hp5 hq5 => ?_) (fun code e ho => put2 h24 fun w5 hc5 hp5 hq5 => ?_)
        · have hol := one_le ho hlt
          have hz4 := hc4.size
          have hc35 : Chg NoS w3 w5 := (hc4.trans hcn).trans2 hc5 fun b hb hx => by rcases hx with rfl | rfl; omega; rw [size_alloc] at hb; omega
          have hz5 := hc35.size
          refine ⟨_, cellAt hq5 0 _ rfl, ?_⟩
          rw [if_neg (by decide)]
          refine ⟨_, cellAt hp5 0 _ rfl, _, cellAt hp5 1 _ rfl, _, cellAt hp5 2 _ rfl, _, cellAt hp5 3 _ rfl, ?_⟩
          refine push2 (x := ⟨kd, cut t k e, m, k⟩) (own_of_chg h1 hc35 fun _ _ x => x) (by omega) (by omega) ?_
          intro a' c' w6 ho6 hc6
          have hpb : ∀ b, (Value.slice a n c).ownBlock = some b → b < w3.heap.size ∧ w.heap.size + 1 ≤ b := fun b hb => own_lt' h1 hb
          have hp6 := hc6.blk hp5 fun hb => by have := (hpb _ hb).1; omega
          refine ⟨_, _, _, rfl, _, cellAt hp6 1 _ rfl, ?_⟩
          have hcl := cut_length t k e (by omega) (by omega)
          have h6' : ∃ d0 d1 d2, w6.heap[w.heap.size]? = some (.cells #[d0, d1, d2] 29 (0, 0)) := by
            obtain ⟨d0, d1, d2, h⟩ := h6
            exact ⟨d0, d1, d2, hc6.blk (hc35.blk h fun x => x) fun hb => by have := (hpb _ hb).2; omega⟩
          have hz6 := hc6.size
          exact ⟨(a', n + 1, c', (e : Int)), ⟨rfl, by rw [bs_size, hcl, i64w _ (by omega) (by omega), show (k : Int) + ((e - k : Nat) : Int) = (e : Int) from by omega], trivial⟩, ⟨e, rfl, ws ++ [⟨kd, cut t k e, m, k⟩], ho6, by simp [h2], (by omega : n + 1 ≤ e), by omega, (h5.trans hc35).trans2 hc6 fun b hb hx => by have := (hpb _ hx).2; omega, h6', by omega, by rw [h8, scan_go (by rw [hst]; exact hlt) (by rw [hst]; exact ho), hst]⟩, by dsimp only; omega⟩
        · have hb0 : code ≠ 0 := one_bad0 ho
          have hz4 := hc4.size
          have hc35 : Chg NoS w3 w5 := (hc4.trans hcn).trans2 hc5 fun b hb hx => by rcases hx with rfl | rfl; omega; rw [size_alloc] at hb; omega
          refine ⟨_, cellAt hq5 0 _ rfl, ?_⟩
          rw [if_pos (by simp; exact hb0)]
          refine ⟨_, cellAt (w := w5.drew) hq5 0 _ rfl, _, cellAt (w := w5.drew) hq5 1 _ rfl, _, cellAt (w := w5.drew) hq5 2 _ rfl, ?_⟩
          have h6' : ∃ d0 d1 d2, w5.drew.heap[w.heap.size]? = some (.cells #[d0, d1, d2] 29 (0, 0)) := by
            obtain ⟨d0, d1, d2, h⟩ := h6
            exact ⟨d0, d1, d2, hc35.blk h fun x => x⟩
          refine retF (R := fun x x1 s w' => RAllV w (allR t) (.tuple #[.slice none 0 0, .agg #[.int .i64 x, .int .i64 x1, .string s]]) w') h6' fun w6 hc6 => ?_
          have hr : allR t = .inr (code, k, cut t k e) := by
            unfold allR
            rw [if_neg (by omega), h8, scan_bad (by rw [hst]; exact hlt) (by rw [hst]; exact ho), hst]
          rw [hr]
          exact ⟨((h5.trans hc35).trans (chg_drew _ _)).trans2 hc6 fun b hb hx => by have : b = w.heap.size := hx; omega, rfl⟩
    · have step : (g t k = 32 ∨ g t k = 9 ∨ g t k = 10 ∨ g t k = 13) → ∃ s' : Option Addr × Nat × Nat × Int, (Value.slice s'.1 s'.2.1 s'.2.2.1 = .slice a n c ∧ Value.int .i64 s'.2.2.2 = .int .i64 (IntKind.wrap .i64 ((k : Int) + 1)) ∧ True) ∧ (∃ k : Nat, s'.2.2.2 = (k : Int) ∧ RLoop w w.heap.size t s'.1 s'.2.1 s'.2.2.1 k w2) ∧ (t.length - s'.2.2.2).toNat < (t.length - (k : Int)).toNat := fun h => by
        refine ⟨(a, n, c, ((k + 1 : Nat) : Int)), ⟨rfl, by rw [i64w _ (by omega) (by omega)]; rfl, trivial⟩, ⟨k + 1, rfl, hl.next ?_ (by omega) (by omega)⟩, by dsimp only; omega⟩
        by_cases h10 : g t k = 10
        · exact sk_nl hlt h10
        · exact sk_blank hlt (by omega)
      by_cases h32 : g t k = 32
      · rw [if_neg (by simp [h32])]
        exact step (by omega)
      rw [if_pos (by simp; omega)]
      by_cases h9 : g t k = 9
      · rw [if_neg (by simp [h9])]
        exact step (by omega)
      rw [if_pos (by simp; omega)]
      by_cases h10 : g t k = 10
      · rw [if_neg (by simp [h10])]
        exact step (by omega)
      rw [if_pos (by simp; omega)]
      by_cases h13 : g t k = 13
      · rw [if_pos (by simp [h13])]
        exact step (by omega)
      rw [if_neg (by simp; omega)]
      exact ⟨(k : Int), ⟨rfl, trivial⟩, rfl, rfl, by omega⟩
  · rw [if_neg (by simp; omega)]
    obtain ⟨ws, h1, h2, h3, h4, h5, h6, h7, h8⟩ := hl
    refine push_ok (x := ⟨0, [], 0, t.length⟩) h1 (by omega) h7 ?_
    intro a' c' w3 ho3 hc3
    refine ⟨_, _, _, rfl, ?_⟩
    have hF : ∃ d0 d1 d2, w3.heap[w.heap.size]? = some (.cells #[d0, d1, d2] 29 (0, 0)) := by
      obtain ⟨d0, d1, d2, h⟩ := h6
      exact ⟨d0, d1, d2, hc3.blk h (by omega)⟩
    refine retF (R := fun x x1 s w' => RAllV w (allR t) (.tuple #[.slice a' (n + 1) c', .agg #[.int .i64 x, .int .i64 x1, .string s]]) w') hF fun w4 hc4 => ?_
    have hr : allR t = .inl (ws ++ [⟨0, [], 0, t.length⟩]) := by
      unfold allR
      rw [if_neg (by omega), h8, scan_end (by rw [sk_end hlt]; exact hlt)]
    rw [hr]
    have ho4 := own_of_chg ho3 hc4 fun b hb hx => by have h' := (own_lt' ho3 hb).2; have : b = w.heap.size := hx; omega
    exact ⟨(h5.trans2 hc3 fun b hb hx => by omega).trans2 hc4 fun b hb hx => by have : b = w.heap.size := hx; omega, a', n + 1, c', rfl, own_base' ho4 (fun b hb => by have := (own_lt' ho4 hb).2; omega), by simp [h2]⟩
end Go.Proofs.YthifnahfcbgnoaaDoor.B
