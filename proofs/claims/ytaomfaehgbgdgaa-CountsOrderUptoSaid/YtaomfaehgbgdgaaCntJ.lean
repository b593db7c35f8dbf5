/-
  Counts: a value read, by the program.
-/
import Derived.Test.YtaomfaehgbgdgaaCntI
import Derived.Lib.Strings
set_option maxRecDepth 100000
set_option linter.unusedVariables false
set_option linter.unusedSimpArgs false
namespace Go.Proofs.Ytaomfaehgbgdgaa.B
open Go Go.Proofs Go.Proofs.YtaomfaehgbgdgaaEng

theorem ba_beq (s t : ByteArray) : (s == t) = decide (s = t) := by
  obtain ⟨a⟩ := s
  obtain ⟨b⟩ := t
  have h : ((⟨a⟩ : ByteArray) == ⟨b⟩) = (a == b) := rfl
  rw [h]
  by_cases e : a = b
  · subst e; simp
  · have : ¬ (⟨a⟩ : ByteArray) = ⟨b⟩ := fun x => e (by injection x)
    simp [e]
instance ba_lawful : LawfulBEq ByteArray where
  eq_of_beq {a b} h := by rw [ba_beq] at h; exact of_decide_eq_true h
  rfl {a} := by rw [ba_beq]; simp
/-- does a cookie count for a version's query? -/
def hitS (v : Int) (i : Nat) (ck : Int) : Bool := (Int.fdiv ck (2 ^ 32) == v) && (IntKind.wrap .u64 (BitVec.toNat (BitVec.ofInt 64 (Int.fdiv ck (2 ^ min i 64)) &&& BitVec.ofInt 64 1) : Int) == 1)
def tot1 (v : Int) (i : Nat) (l : List (Pl × Nat)) : Nat := ((l.filter fun x => hitS v i x.1.2.2).map Prod.snd).sum
def totN (v : Int) (names : List ByteArray) (name : ByteArray) (l : List (Pl × Nat)) : Nat → Nat
  | 0 => 0
  | k + 1 => totN v names name l k + if names[k]? = some name then tot1 v k l else 0
def seenS (f : Pl → Bool) (L : List En) (seen : Array Nat) : Nat := ((L.filter fun e => f e.pl && seen.contains e.born).map En.n).sum
theorem seenS_zero (f : Pl → Bool) (L : List En) : seenS f L #[] = 0 := by
  have : (L.filter fun e => f e.pl && (#[] : Array Nat).contains e.born) = [] := List.filter_eq_nil_iff.2 fun e _ => by simp
  unfold seenS
  rw [this]
  rfl
theorem seenS_cons (f : Pl → Bool) (x : En) (L : List En) (seen : Array Nat) : seenS f (x :: L) seen = (if f x.pl && seen.contains x.born then x.n else 0) + seenS f L seen := by
  unfold seenS
  rw [List.filter_cons]
  by_cases h : (f x.pl && seen.contains x.born) = true
  · rw [if_pos h, if_pos h]; simp
  · rw [if_neg h, if_neg h]; simp
theorem seenS_push {f : Pl → Bool} : ∀ {L : List En} {seen : Array Nat} {e : En}, (L.map En.born).Nodup → e ∈ L → seen.contains e.born = false → seenS f L (seen.push e.born) = seenS f L seen + if f e.pl = true then e.n else 0
  | x :: L, seen, e, hn, he, hs => by
    rw [seenS_cons, seenS_cons]
    rw [List.map_cons, List.nodup_cons] at hn
    have same : ∀ L', e.born ∉ L'.map En.born → seenS f L' (seen.push e.born) = seenS f L' seen := fun L' hno => by
      unfold seenS
      congr 2
      refine List.filter_congr fun y hy => ?_
      have : (y.born == e.born) = false := by
        have : y.born ≠ e.born := fun hh => hno (hh ▸ List.mem_map_of_mem hy)
        simpa using this
      rw [Array.contains_push, this, Bool.or_false]
    by_cases hx : x = e
    · subst hx
      rw [same L hn.1]
      have h1 : (seen.push x.born).contains x.born = true := by simp
      rw [h1, hs]
      by_cases hf : f x.pl = true
      · simp [hf]; omega
      · simp [hf]
    · have hL : e ∈ L := by
        rcases List.mem_cons.1 he with h | h
        · exact absurd h.symm hx
        · exact h
      have hb : (x.born == e.born) = false := by
        have : x.born ≠ e.born := fun hh => hn.1 (hh ▸ List.mem_map_of_mem hL)
        simpa using this
      rw [seenS_push hn.2 hL hs, Array.contains_push, hb, Bool.or_false]
      omega
theorem seenS_all {f : Pl → Bool} {L : List En} {seen : Array Nat} (h : ∀ e ∈ L, seen.contains e.born = true) : seenS f L seen = (((cont L).filter fun x => f x.1).map Prod.snd).sum := by
  unfold seenS
  rw [← cont_filter L f]
  unfold cont
  rw [List.map_map]
  congr 1
  have : (L.filter fun e => f e.pl && seen.contains e.born) = L.filter fun e => f e.pl := List.filter_congr fun e he => by rw [h e he, Bool.and_true]
  rw [this]
  rfl
theorem aggV {x : Int} {a : Option Addr} {n c : Nat} {K : Int → Option Addr → Nat → Nat → Prop} (hK : K x a n c) :
    ∃ vs, Value.tuple #[.int .i64 x, .agg #[.slice a n c]] = .tuple (List.toArray vs) ∧ ∃ u rest, vs = u :: rest ∧ ∃ x, u = .int .i64 x ∧ ∃ u rest1, rest = u :: rest1 ∧ ∃ vs, u = .agg (List.toArray vs) ∧ ∃ u rest2, vs = u :: rest2 ∧ ∃ a n c, u = .slice a n c ∧ rest2 = [] ∧ rest1 = [] ∧ K x a n c :=
  ⟨_, rfl, _, _, rfl, _, rfl, _, _, rfl, _, rfl, _, _, rfl, _, _, _, rfl, rfl, rfl, hK⟩
theorem bytes_same {a b : ByteArray} (h : ByteArray.toList a = ByteArray.toList b) : a = b := by
  rw [ByteArray.toList_eq, ByteArray.toList_eq] at h
  obtain ⟨⟨x⟩⟩ := a
  obtain ⟨⟨y⟩⟩ := b
  have : x = y := h
  rw [this]
theorem Read_ok {w : World} {b r q : Nat} {L : List En} {ve : Ve} {W G : Nat → Prop} (h : Warm w b r q L [ve] W G) (name : ByteArray) :
    Calls Try.prog 11 #[.pointer (some ⟨b, 0, none⟩), .string name] w (endW (fun v w' => v = .tuple #[.int .u64 (satS (totN ve.key ve.names name (cont L) ve.names.length)), .bool (decide (name ∈ ve.names))] ∧ Chg NoS w w') (fun _ _ => False)) := by
  refine F11_calls (some ⟨b, 0, none⟩) name ?_
  delta F11
  rw [if_neg (by simp)]
  have c1 := chg_alloc w (.cells #[.int .u64 0] 90) NoS
  have b1 := blk_alloc w (.cells #[.int .u64 0] 90)
  have z1 := size_alloc w (.cells #[.int .u64 0] 90)
  generalize w.alloc (.cells #[.int .u64 0] 90) = w1 at *
  have hW1 := h.keep c1 fun _ _ x => x
  refine Calls.then (Ready_warm hW1) ?_
  rintro v w2 ⟨rfl, c2, hW2⟩
  refine ⟨_, rfl, ?_⟩
  rw [wSome_some']
  refine ⟨_, rdBk4 hW2, ?_⟩
  have b2 := c2.blk b1 (fun x => x)
  have s2 := c2.size
  obtain ⟨cq, hq2, hqb⟩ := hW2.vers
  have hve := hW2.vent ve (List.mem_singleton.2 rfl)
  have hvb := hqb ve (List.mem_singleton.2 rfl)
  refine range_map map67 hq2 fun w3 hit3 c3 z3 => ?_
  have hW3 := hW2.keep c3 fun _ _ x => x
  have hq3 := c3.blk hq2 (fun x => x)
  have b3 := c3.blk b2 (fun x => x)
  have hnew : ∀ {w' : World}, Chg (OnlyB w.heap.size) w3 w' → Chg NoS w w' := fun hc => ((c1.trans c2).trans c3).trans2 hc fun k hk e => by have : k = w.heap.size := e; omega
  have hold : ∀ {k : Nat}, W k ∨ G k → k < w.heap.size := fun hk => h.lt _ hk
  have accC : ∀ {w' : World} {x : Nat}, SumAt w' w.heap.size x → w'.cell? (addK ⟨w.heap.size, 0, none⟩ 0) = some (.int .u64 x) := fun hh => by rw [addK_zero, cell_blk hh]; rfl
  refine ⟨fun s w4 => ∃ (seen : Array Nat) (acc : Nat), w4.heap[w2.heap.size]? = some (.mapIter (some q) cq seen cq) ∧ SumAt w4 w.heap.size acc ∧ Chg (fun k => k = w.heap.size ∨ k = w2.heap.size) w3 w4 ∧ ((seen = #[] ∧ acc = 0 ∧ s = false) ∨ (seen = #[ve.born] ∧ acc = satS (totN ve.key ve.names name (cont L) ve.names.length) ∧ s = decide (name ∈ ve.names))),
    fun _ w4 => 1 - (w4.iterSeen w2.heap.size).size, ⟨false, ⟨rfl, trivial⟩, #[], 0, hit3, b3, Chg.refl _ _, .inl ⟨rfl, rfl, rfl⟩⟩, ?_⟩
  rintro s w4 ⟨seen, acc, hit4, b4, c4, hst⟩ _
  have hlt2 : w.heap.size < w2.heap.size := lt_of_blk b2
  have hne4 : ∀ k, W k ∨ G k → ¬ (k = w.heap.size ∨ k = w2.heap.size) := fun k hk e => by have := hold hk; omega
  have hW4 := hW3.keep c4 hne4
  have hq4 := c4.blk hq3 (hne4 q (.inl h.wq))
  have s3 := c3.size
  have s4 := c4.size
  refine next_map hit4 hq4 (not_all_new fun x hx => by
    have : x = ve.me := by simpa using hx
    subst this
    exact hvb) (fun hdone w5 heq c5 => ?_) fun e he hse w5 hit5 c5 z5 => ?_
  · rcases hst with ⟨rfl, rfl, rfl⟩ | ⟨rfl, rfl, rfl⟩
    · have := hdone ve.me (by simp) (by simp)
      have h6 : cq ≤ ve.born := this
      omega
    · refine .inl ⟨rfl, ?_⟩
      have b5 : SumAt w5 w.heap.size _ := c5.blk b4 (fun x => x)
      refine Calls.then (Load_ok (accC b5)) ?_
      rintro v w6 ⟨rfl, rfl⟩
      refine ⟨_, rfl, rfl, ?_⟩
      exact ((((c1.trans c2).trans c3).trans2 c4 fun k hk e => by omega)).trans c5
  have hem : e = ve.me := by simpa using he
  subst hem
  rcases hst with ⟨rfl, rfl, rfl⟩ | ⟨rfl, _, _⟩
  rotate_left
  · have h6 : (#[ve.born] : Array Nat).contains ve.born = false := hse
    simp at h6
  refine .inr ⟨_, _, rfl, ?_⟩
  have hq5 := c5.blk hq4 (fun e => by have e' : q = w2.heap.size := e; have := hold (.inl h.wq); omega)
  refine entry_map hit5 hq5 (by simp) (by simp) ?_
  refine aggV (x := ve.key) (a := ve.a) (n := ve.n) (c := ve.c) ?_
  have b5 := c5.blk b4 (fun e => by have : w.heap.size = w2.heap.size := e; omega)
  have c45 : Chg (fun k => k = w.heap.size ∨ k = w2.heap.size) w3 w5 := c4.trans2 c5 fun k hk e => .inr e
  have hW5 := hW3.keep c45 hne4
  rw [addK_zero]
  refine setW_blk (blk_alloc w5 (.cells #[.slice none 0 0] 53)) (by simp) rfl fun w6 b6 c6 z6 => ?_
  have ca := chg_alloc w5 (.cells #[.slice none 0 0] 53) NoS
  have c56 : Chg NoS w5 w6 := ca.trans2 c6 fun k hk e => by have : k = w5.heap.size := e; omega
  have hW6 := hW5.keep c56 fun _ _ x => x
  have hit6 := c56.blk hit5 (fun x => x)
  have b6' := c56.blk b5 (fun x => x)
  have c36 : Chg (fun k => k = w.heap.size ∨ k = w2.heap.size) w3 w6 := c45.trans (c56.mono fun _ _ x => x.elim)
  refine ⟨_, _, _, (show w6.cell? ⟨w5.heap.size, 0, none⟩ = some (.slice ve.a ve.n ve.c) by rw [cell_blk b6]; rfl), ?_⟩
  have hnm := hve.2.1
  have hn32 := hve.2.2.2.2.2
  -- the names
  refine ⟨fun s w7 => ∃ j : Nat, s.2 = j ∧ j ≤ ve.n ∧ s.1 = decide (name ∈ ve.names.take j) ∧ SumAt w7 w.heap.size (satS (totN ve.key ve.names name (cont L) j)) ∧ Chg (OnlyB w.heap.size) w6 w7, fun s _ => (ve.n - s.2).toNat,
    ⟨(false, 0), ⟨rfl, rfl, trivial⟩, 0, rfl, by omega, by simp, by have : satS (totN ve.key ve.names name (cont L) 0) = 0 := rfl; rw [this]; exact b6', Chg.refl _ _⟩, ?_⟩
  rintro ⟨th, i⟩ w7 ⟨j, hi, hj, hth, b7, c7⟩ _
  dsimp only at hi hth ⊢
  subst hi
  have hne7 : ∀ k, W k ∨ G k → ¬ OnlyB w.heap.size k := fun k hk e => by have e' : k = w.heap.size := e; have := hold hk; omega
  have hW7 := hW6.keep c7 hne7
  have hsz6 : w2.heap.size < w6.heap.size := lt_of_blk hit6
  by_cases hlt : (j : Int) < ve.n
  · rw [if_pos (by simpa using hlt)]
    have hjn : j < ve.names.length := by omega
    obtain ⟨A, hA, hcell⟩ := (hW7.vent ve (List.mem_singleton.2 rfl)).1 j _ (names_get hjn)
    refine ⟨by omega, by omega, wSome_of hA ⟨_, (by rw [Int.toNat_natCast, Nat.mul_one]; exact hcell), ?_⟩⟩
    have hget : ve.names[j]? = some ve.names[j] := List.getElem?_eq_getElem hjn
    by_cases hnm2 : ve.names[j] = name
    rotate_left
    · rw [if_pos (by
        have : ¬ ByteArray.toList ve.names[j] = ByteArray.toList name := fun hh => hnm2 (bytes_same hh)
        simpa using this)]
      refine ⟨(th, (j : Int) + 1), ⟨rfl, by rw [i64w _ (by omega) (by omega)], trivial⟩, ⟨j + 1, by dsimp only; omega, by omega, ?_, ?_, c7⟩, by dsimp only; omega⟩
      · dsimp only
        rw [hth]
        refine decide_eq_decide.2 ?_
        rw [take_snoc hjn, List.mem_append, List.mem_singleton]
        exact ⟨fun h => .inl h, fun h => h.elim id fun h => absurd h.symm hnm2⟩
      · have : totN ve.key ve.names name (cont L) (j + 1) = totN ve.key ve.names name (cont L) j := by
          show totN ve.key ve.names name (cont L) j + (if ve.names[j]? = some name then _ else 0) = _
          rw [hget, if_neg (by simpa using hnm2)]
          rfl
        rw [this]; exact b7
    rw [if_neg (by rw [hnm2]; simp), wSome_some']
    refine ⟨_, rdBk hW7, ?_⟩
    obtain ⟨cl, hm7, hb7⟩ := hW7.sums
    refine range_map map66 hm7 fun w8 hit8 c8 z8 => ?_
    have hm8 := c8.blk hm7 (fun x => x)
    have b8 := c8.blk b7 (fun x => x)
    have hW8 := hW7.keep c8 fun _ _ x => x
    have s7 := c7.size
    have htot : totN ve.key ve.names name (cont L) (j + 1) = totN ve.key ve.names name (cont L) j + tot1 ve.key j (cont L) := by
      show totN ve.key ve.names name (cont L) j + (if ve.names[j]? = some name then _ else 0) = _
      rw [hget, if_pos (by rw [hnm2])]
    generalize totN ve.key ve.names name (cont L) j = T at *
    -- the sums
    refine ⟨fun _ w9 => ∃ seen, w9.heap[w7.heap.size]? = some (.mapIter (some r) cl seen cl) ∧ SumAt w9 w.heap.size (satS (T + seenS (fun p => hitS ve.key j p.2.2) L seen)) ∧ Chg (fun k => k = w.heap.size ∨ k = w7.heap.size) w8 w9, fun _ w9 => (L.filter fun e => !(w9.iterSeen w7.heap.size).contains e.born).length,
      ⟨(), trivial, #[], hit8, by rw [seenS_zero]; exact b8, Chg.refl _ _⟩, ?_⟩
    rintro _ w9 ⟨seen, hit9, b9, c9⟩ _
    have hne9 : ∀ k, W k ∨ G k → ¬ (k = w.heap.size ∨ k = w7.heap.size) := fun k hk e => by have := hold hk; omega
    have hW9 := hW8.keep c9 hne9
    have hm9 := c9.blk hm8 (hne9 r (.inl h.wr))
    have s8 := c8.size
    have s9 := c9.size
    refine next_map hit9 hm9 (not_all_new fun x hx => by
      obtain ⟨e, he, rfl⟩ := List.mem_map.1 hx
      exact hb7 e he) (fun hdone w10 heq c10 => ?_) fun e he hse w10 hit10 c10 z10 => ?_
    · refine .inl ⟨rfl, ?_⟩
      have hall : ∀ e ∈ L, seen.contains e.born = true := fun e he => by
        cases hh : seen.contains e.born with
        | true => rfl
        | false =>
          have h5 : cl ≤ e.born := hdone e.me (by simpa using List.mem_map_of_mem he) hh
          have := hb7 e he
          omega
      rw [seenS_all hall] at b9
      have b10 := c10.blk b9 (fun x => x)
      refine ⟨(true, (j : Int) + 1), ⟨rfl, by rw [i64w _ (by omega) (by omega)], trivial⟩, ⟨j + 1, by dsimp only; omega, by omega, ?_, ?_, ?_⟩, by dsimp only; omega⟩
      · dsimp only
        refine (decide_eq_true ?_).symm
        rw [take_snoc hjn, List.mem_append, List.mem_singleton]
        exact .inr hnm2.symm
      · rw [htot]; exact b10
      · exact ((c7.trans (c8.mono fun _ _ x => x.elim)).trans2 c9 fun k hk e => by
          have hk' : k = w.heap.size := by omega
          exact hk').trans (c10.mono fun _ _ x => x.elim)
    · refine .inr ⟨_, _, rfl, ?_⟩
      rw [List.toList_toArray] at he
      obtain ⟨x, hx, rfl⟩ := List.mem_map.1 he
      have hm10 := c10.blk hm9 (fun e => by have e' : r = w7.heap.size := e; have := hold (.inl h.wr); omega)
      refine entry_map hit10 hm10 (by simpa using List.mem_map_of_mem (f := En.me) hx) (by simpa [List.map_map, Function.comp_def, En.me] using h.nd3) ?_
      refine agg3 (p := x.pl) (k := some ⟨x.blk, 0, none⟩) ?_
      have cA := chg_alloc w10 (.cells #[.int .u16 0, .bool false, .int .u64 0] 71) NoS
      refine setPl (p := x.pl) (blk_alloc w10 (.cells #[.int .u16 0, .bool false, .int .u64 0] 71)) rfl fun w11 b11 c11 z11 => ?_
      have c1011 : Chg NoS w10 w11 := cA.trans2 c11 fun k hk e => by have : k = w10.heap.size := e; omega
      have hit11 := c1011.blk hit10 (fun x => x)
      have b10 := c10.blk b9 (fun e => by have : w.heap.size = w7.heap.size := e; omega)
      have bs11 := c1011.blk b10 (fun x => x)
      have c911 : Chg (fun k => k = w.heap.size ∨ k = w7.heap.size) w8 w11 := (c9.trans2 c10 fun k hk e => .inr e).trans (c1011.mono fun _ _ x => x.elim)
      have hW11 := hW8.keep c911 hne9
      have hmu : ∀ w12 : World, w12.heap[w7.heap.size]? = some (.mapIter (some r) cl (seen.push x.born) cl) → (L.filter fun e => !(w12.iterSeen w7.heap.size).contains e.born).length < (L.filter fun e => !(w9.iterSeen w7.heap.size).contains e.born).length := fun w12 hit12 => by
        have e6 : w12.iterSeen w7.heap.size = seen.push x.born := by unfold World.iterSeen; rw [hit12]
        have e3 : w9.iterSeen w7.heap.size = seen := by unfold World.iterSeen; rw [hit9]
        rw [e6, e3]
        exact left_less hx hse
      have hpush := seenS_push (f := fun p => hitS ve.key j p.2.2) h.nd3 hx hse
      obtain ⟨k1, k2, k3⟩ := hve.2.2.2
      have hwk : IntKind.wrap .u64 ve.key = ve.key := wrap_u64 _ (by omega) (by omega)
      have hwj : IntKind.wrap .u64 (j : Int) = j := wrap_u64 _ (by omega) (by omega)
      refine ⟨_, (rdPl 2 b11).trans rfl, by omega, ?_⟩
      rw [hwk]
      have hskip : hitS ve.key j x.pl.2.2 = false → ∃ s' : Unit, True ∧ (∃ seen, w11.heap[w7.heap.size]? = some (.mapIter (some r) cl seen cl) ∧ SumAt w11 w.heap.size (satS (T + seenS (fun p => hitS ve.key j p.2.2) L seen)) ∧ Chg (fun k => k = w.heap.size ∨ k = w7.heap.size) w8 w11) ∧ (L.filter fun e => !(w11.iterSeen w7.heap.size).contains e.born).length < (L.filter fun e => !(w9.iterSeen w7.heap.size).contains e.born).length := fun hh => by
        rw [hh] at hpush
        exact ⟨(), trivial, ⟨seen.push x.born, hit11, by rw [hpush]; exact bs11, c911⟩, hmu w11 hit11⟩
      by_cases hv : (Int.fdiv x.pl.2.2 (2 ^ 32) == ve.key) = true
      rotate_left
      · rw [if_neg hv]
        exact hskip (by unfold hitS; rw [eq_false_of_ne_true hv]; rfl)
      rw [if_pos hv]
      refine ⟨_, (rdPl 2 b11).trans rfl, by rw [hwj]; omega, ?_⟩
      rw [hwj, Int.toNat_natCast]
      by_cases hb : (IntKind.wrap .u64 (BitVec.toNat (BitVec.ofInt 64 (Int.fdiv x.pl.2.2 (2 ^ min j 64)) &&& BitVec.ofInt 64 1) : Int) == 1) = true
      rotate_left
      · rw [if_neg hb]
        exact hskip (by unfold hitS; rw [eq_false_of_ne_true hb, Bool.and_false])
      rw [if_pos hb, wSome_some']
      have hhit : hitS ve.key j x.pl.2.2 = true := by unfold hitS; rw [hv, hb]; rfl
      rw [hhit, if_pos rfl] at hpush
      obtain ⟨g1, g2, g3, g4, g5, g6, g7⟩ := hW11.ent x hx
      have hxC : w11.cell? (addK ⟨x.blk, 0, none⟩ 0) = some (.int .u64 x.n) := by rw [addK_zero, cell_blk g2]; rfl
      refine Calls.then (Load_ok hxC) ?_
      rintro v w12 ⟨rfl, rfl⟩
      refine ⟨_, rfl, ?_⟩
      refine Calls.then (Add_ok (m := x.n) bs11 (satS_le _) (by omega)) ?_
      rintro v w13 ⟨rfl, b13, c13, z13⟩
      have hit13 := c13.blk hit11 (fun e => by have : w7.heap.size = w.heap.size := e; omega)
      refine ⟨(), trivial, ⟨seen.push x.born, hit13, ?_, c911.trans2 c13 fun k hk e => .inl e⟩, hmu w13 hit13⟩
      rw [satS_add] at b13
      rw [hpush, ← Nat.add_assoc]
      exact b13
  · rw [if_neg (by simpa using hlt)]
    have hjn : j = ve.names.length := by omega
    subst hjn
    rw [List.take_length] at hth
    have hit7 := c7.blk hit6 (fun e => by have : w2.heap.size = w.heap.size := e; omega)
    refine ⟨th, ⟨rfl, trivial⟩, ⟨#[ve.born], _, hit7, b7, c36.trans2 c7 (fun k hk e => .inl e), .inr ⟨rfl, rfl, hth⟩⟩, ?_⟩
    have e6 : w7.iterSeen w2.heap.size = #[ve.born] := by unfold World.iterSeen; rw [hit7]; rfl
    have e3 : w4.iterSeen w2.heap.size = #[] := by unfold World.iterSeen; rw [hit4]
    rw [e6, e3]
    simp
end Go.Proofs.Ytaomfaehgbgdgaa.B
