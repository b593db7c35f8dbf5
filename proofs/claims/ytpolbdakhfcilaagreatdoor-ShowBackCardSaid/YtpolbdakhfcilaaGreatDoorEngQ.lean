/-
  Rows of bytes: appended, made, cut; numbers of 32 bits.
-/
import Derived.Test.YtpolbdakhfcilaaGreatDoorEngN
import Derived.Laws.MakeOwn
import Derived.Laws.OwnMore
import Derived.IntWalk
namespace Go.Proofs.YtpolbdakhfcilaaGreatDoorEng
open Go
set_option linter.unusedSimpArgs false
set_option linter.unusedVariables false
variable {P : Program}

theorem info_open' {t : TypeId} {z : Value} {s b : Nat} (h : (P.info? t).map (fun i => (i.zero, i.size, i.bytes)) = some (some z, s, b)) : ∃ i, P.info? t = some i ∧ i.zero = some z ∧ i.size = s ∧ i.bytes = b := by
  obtain ⟨i, hi, he⟩ := Option.map_eq_some_iff.1 h
  simp only [Prod.mk.injEq] at he
  exact ⟨i, hi, he.1, he.2.1, he.2.2⟩
/-- t is a []byte, e its byte. -/
structure ByteT (P : Program) (t e : TypeId) : Prop where
  und : P.underlying t = some (.slice e)
  info : (P.info? e).map (fun i => (i.zero, i.size, i.bytes)) = some (some (.int .u8 0), 1, 1)
  u8 : P.underlying e = some (.int .u8)
def vals (bs : List UInt8) : List Value := bs.map fun x => .int .u8 x.toNat
theorem vals_length (bs : List UInt8) : (vals bs).length = bs.length := by simp [vals]
theorem vals_append (a b : List UInt8) : vals (a ++ b) = vals a ++ vals b := by simp [vals]
theorem vals_one (bs : List UInt8) : ∀ u ∈ vals bs, u.oneCell' = true := fun u hu => by
  obtain ⟨x, _, rfl⟩ := List.mem_map.1 hu; rfl
theorem vals_get {bs : List UInt8} {j : Nat} (h : j < bs.length) : (vals bs)[j]? = some (.int .u8 bs[j].toNat) := by simp [vals, h]

theorem reads_take {w : World} {a : Option Addr} {xs : List Value} (h : Reads w a xs) (k : Nat) : Reads w a (xs.take k) := fun j u hu => by
  rw [List.getElem?_take] at hu
  split at hu
  · exact h j u hu
  · cases hu
theorem reads_drop {w : World} {a : Option Addr} {xs : List Value} (h : Reads w a xs) (k c : Nat) (hc : k < xs.length → ¬ c = k) : Reads w (if c = k then a else a.map fun A => addK A (k * 1)) (xs.drop k) := fun j u hu => by
  rw [List.getElem?_drop] at hu
  obtain ⟨A, rfl, hA⟩ := h _ _ hu
  have hlt := (List.getElem?_eq_some_iff.1 hu).1
  rw [if_neg (hc (by omega))]
  exact ⟨_, rfl, by rw [addK_addK, Nat.mul_one]; exact hA⟩
theorem cut0 (a : Option Addr) (c : Nat) : (if c = 0 then a else a.map fun A => addK A 0) = a := by
  split
  · rfl
  · cases a with
    | none => rfl
    | some A => simp [addK_zero]
theorem reads_lit {w : World} {b : Nat} {cs : Array Value} {t : TypeId} {fr : Nat × Nat} (h : w.heap[b]? = some (.cells cs t fr)) : Reads w (some ⟨b, 0, none⟩) cs.toList := fun j u hu => by
  refine ⟨_, rfl, ?_⟩
  rw [addK_lit, cell_blk h, Nat.zero_add]
  simpa using hu

/-- append to a row of bytes of the call's own. -/
theorem bytes_append {t e tx ex ty : TypeId} (hT : ByteT P t e) (htx : P.underlying tx = some (.slice ex)) {w : World} {base n m c : Nat} {v : Value} {a : Option Addr} {bs ns : List UInt8} {K : Value → World → Prop} {E : PanW}
    (ho : w.ownsRow base e 1 v n (vals bs)) (hm : ns.length = m) (hr : Reads w a (vals ns)) (h0 : a = none → m = 0) (hb : n + m ≤ 140737488355328) (hbase : base ≤ w.heap.size)
    (h : ∀ a' c' w', w'.ownsRow base e 1 (.slice a' (n + m) c') (n + m) (vals (bs ++ ns)) → Chg (fun k => v.ownBlock = some k) w w' → (∀ k, (Value.slice a' (n + m) c').ownBlock = some k → v.ownBlock = some k ∨ w.heap.size ≤ k) → K (.slice a' (n + m) c') w') :
    runV P (Builtin.append_ #[t, tx] ty #[v, .slice a m c]) w K E := by
  obtain ⟨i, hi, hz, hs, hby⟩ := info_open' hT.info
  refine append_own (base := base) (n := n) (m := m) hT.und hi hz hs rfl ho (src_slice htx (by simpa [vals] using hm) hr h0 (vals_one ns)) (by rw [hby]; omega) hb hbase ?_
  intro v' w' ho' hc hb1 hb2
  obtain ⟨a', c', rfl, _, _⟩ := own_form ho'
  refine h a' c' w' (by rw [vals_append]; exact ho') hc fun k hk => ?_
  rcases hb1 with e | e
  · exact .inl (e ▸ hk)
  · rw [e] at hk; exact .inr (by have := Option.some.inj hk; omega)
/-- append([]byte{}, b...) -/
theorem bytes_fresh {t e tx ex ty : TypeId} (hT : ByteT P t e) (htx : P.underlying tx = some (.slice ex)) {w : World} {base m c : Nat} {a : Option Addr} {ns : List UInt8} {K : Value → World → Prop} {E : PanW}
    (hm : ns.length = m) (hr : Reads w a (vals ns)) (h0 : a = none → m = 0) (hb : m ≤ 140737488355328) (hbase : base ≤ w.heap.size)
    (h : ∀ a' c' w', w'.ownsRow base e 1 (.slice a' m c') m (vals ns) → Chg NoS w w' → (∀ k, (Value.slice a' m c').ownBlock = some k → w.heap.size ≤ k) → K (.slice a' m c') w') :
    runV P (Builtin.append_ #[t, tx] ty #[.slice (some ⟨w.heap.size, 0, none⟩) 0 0, .slice a m c]) (w.alloc (.cells #[] e)) K E := by
  have hown : (w.alloc (.cells #[] e)).ownsRow base e 1 (.slice (some ⟨w.heap.size, 0, none⟩) 0 0) 0 (vals []) :=
    ⟨rfl, .inr ⟨w.heap.size, 0, #[], rfl, hbase, blk_alloc w _, Nat.le_refl _, by simp [maxLen], rfl, rfl⟩⟩
  refine bytes_append hT htx hown hm (hr.chg (chg_alloc w _ NoS) (fun _ _ x => x)) h0 (by omega) (by rw [size_alloc]; omega) ?_
  intro a' c' w' ho hc hb1
  simp only [Nat.zero_add, List.nil_append] at ho hb1 ⊢
  refine h a' c' w' ho ?_ fun k hk => ?_
  · refine ((chg_alloc w (.cells #[] e) (fun k => (Value.slice (some ⟨w.heap.size, 0, none⟩) 0 0).ownBlock = some k)).trans hc).mono fun k hk hx => ?_
    have : w.heap.size = k := by simpa [Value.ownBlock] using hx
    omega
  · rcases hb1 k hk with e | e
    · have : w.heap.size = k := by simpa [Value.ownBlock] using e
      omega
    · rw [size_alloc] at e; omega
/-- make([]byte, 0, c) -/
theorem bytes_make {t e : TypeId} (hT : ByteT P t e) {w : World} {base c : Nat} {z : Int} {kl kc : IntKind} {K : Value → World → Prop} {E : PanW} (hz : z = c) (hb : c ≤ 140737488355328) (hbase : base ≤ w.heap.size)
    (h : ∀ w', w'.ownsRow base e 1 (.slice (some ⟨w.heap.size, 0, none⟩) 0 c) 0 (vals []) → Chg NoS w w' → w'.heap.size = w.heap.size + 1 → K (.slice (some ⟨w.heap.size, 0, none⟩) 0 c) w') :
    runV P (Instr.makeSlice t (.int kl 0) (.int kc z)) w K E := by
  subst hz
  obtain ⟨i, hi, hzz, hs, hby⟩ := info_open' hT.info
  obtain ⟨w', h1, h2, h3⟩ := run_make_own (P := P) w base t e i _ 1 hT.und hi hzz hs kl kc c (by rw [hby]; omega) (by simp only [maxLen]; omega) hbase
  have hr := run_make (P := P) w t e i _ hT.und hi hzz kl kc 0 c (Int.le_refl _) (by omega) (by rw [hby]; omega) (by omega)
  rw [hr] at h1
  injection h1 with _ h1
  subst h1
  have hc := chg_alloc w (.cells (madeCells (Value.int .u8 0).cells ((c : Int).toNat * i.size)) e) NoS
  exact runV_of_ok hr (by
    simp only [Int.toNat_zero, Int.toNat_natCast] at h2 hc ⊢
    exact h _ h2 hc (size_alloc _ _))
/-- make([]byte, n) -/
theorem bytes_zero {t e : TypeId} (hT : ByteT P t e) {w : World} {base n : Nat} {z z2 : Int} {kl kc : IntKind} {K : Value → World → Prop} {E : PanW} (hz : z = n) (hz2 : z2 = n) (hb : n ≤ 140737488355328) (hbase : base ≤ w.heap.size)
    (h : ∀ w', w'.ownsRow base e 1 (.slice (some ⟨w.heap.size, 0, none⟩) n n) n (vals (List.replicate n 0)) → Chg NoS w w' → w'.heap.size = w.heap.size + 1 → K (.slice (some ⟨w.heap.size, 0, none⟩) n n) w') :
    runV P (Instr.makeSlice t (.int kl z) (.int kc z2)) w K E := by
  subst hz
  subst hz2
  obtain ⟨i, hi, hzz, hs, hby⟩ := info_open' hT.info
  obtain ⟨w', h1, h2, h3⟩ := run_make_full (P := P) w base t e i _ 1 hT.und hi hzz hs kl kc n (by rw [hby]; omega) (by simp only [maxLen]; omega) hbase
  have hr := run_make (P := P) w t e i _ hT.und hi hzz kl kc n n (by omega) (Int.le_refl _) (by rw [hby]; omega) (by omega)
  rw [hr] at h1
  injection h1 with _ h1
  subst h1
  have hc := chg_alloc w (.cells (madeCells (Value.int .u8 0).cells ((n : Int).toNat * i.size)) e) NoS
  have he : (madeCells (Value.int .u8 0).cells (n * 1)).toList = vals (List.replicate n 0) := by
    apply List.ext_getElem?
    intro j
    simp only [madeCells, vals, Nat.mul_one]
    by_cases hj : j < n
    · simp [hj, List.getElem?_replicate, Value.cells]
      rw [Nat.mod_one]; rfl
    · simp [hj, List.getElem?_replicate]
  rw [he] at h2
  exact runV_of_ok hr (by
    simp only [Int.toNat_natCast] at h2 hc ⊢
    exact h _ h2 hc (size_alloc _ _))
/-- the capacity of make is not what is cut off -/
theorem own_reads_v {w : World} {base : Nat} {e : TypeId} {n c : Nat} {a : Option Addr} {bs : List UInt8} (h : w.ownsRow base e 1 (.slice a n c) n (vals bs)) : Reads w a (vals bs) ∧ bs.length = n ∧ (a = none → n = 0) ∧ (∀ A, a = some A → A.spot = none) ∧ n ≤ c := by
  refine ⟨own_reads' h, by have := h.1; rw [vals_length] at this; omega, fun e => ?_, fun A e => ?_, ?_⟩
  · subst e
    rcases h.2 with ⟨_, h⟩ | ⟨g, cap, cur, he, _⟩
    · exact h
    · injection he with he; cases he
  · obtain ⟨a', c', he, _, ha⟩ := own_form h
    injection he with he1 _ _
    subst he1
    obtain ⟨g, rfl⟩ := ha A e
    rfl
  · obtain ⟨a', c', he, hn, ha⟩ := own_form h
    injection he with _ _ he3
    omega

/-- 'string(b)' of a []byte, wherever its bytes lie. -/
theorem bytes_str {src e dst : TypeId} (hT : ByteT P src e) (hd : P.underlying dst = some .string) {w : World} {a : Option Addr} {n c : Nat} {bs : List UInt8} {K : Value → World → Prop} {E : PanW} (hn : bs.length = n) (hr : Reads w a (vals bs)) (h : K (.string ⟨bs.toArray⟩) w) :
    runV P (convert src dst (.slice a n c)) w K E := by
  cases a with
  | none =>
    have h0 : bs = [] := by
      cases bs with
      | nil => rfl
      | cons b l =>
        obtain ⟨A, hA, _⟩ := hr 0 _ (vals_get (by simp))
        cases hA
    subst h0
    exact runV_of_ok (run_convert_bytes_nil (P := P) w src e hT.und hT.u8 n c dst hd) h
  | some A =>
    have hl : (loadCells A n).run P w = .ok ((bs.map fun x => (x.toNat : Int)).map (Value.int .u8)).toArray w := by
      have := run_loadCells_list (P := P) w A (vals bs) (fun j v hj => by
        obtain ⟨A', e, hc⟩ := hr j v hj
        cases e
        exact hc)
      rw [vals_length, hn] at this
      rw [this]
      simp [vals]
    have key : ∀ xs : List Int, (loadCells A n).run P w = .ok (xs.map (Value.int .u8)).toArray w → (convert src dst (.slice (some A) n c)).run P w = .ok (.string (strOfNums xs)) w := fun xs hl => by
      rw [run_convert_bytes_string w src dst e _ n c hT.und hT.u8 hd, run_bytesToString w _ n c xs hl, foldl_push_bytes]
      simp [strOfNums, ByteArray.empty, ByteArray.emptyWithCapacity]
      rfl
    exact runV_of_ok (key _ hl) (by rw [strOfNums_bytes]; exact h)
theorem Calls.then {f : Nat} {args : Array Value} {w : World} {A B : Value → World → Prop} {E : PanW} (h : Calls P f args w (endW A (fun _ _ => False))) (hk : ∀ v w, A v w → B v w) : Calls P f args w (endW B E) :=
  h.mono fun e w' he => by
    cases e with
    | returned v => exact hk v w' he
    | panicked c => exact he.elim
    | outgrown => exact he.elim

/-! ### numbers of 32 and of 8 bits -/
theorem ofInt_nat {k : Nat} (n : BitVec k) : BitVec.ofInt k (n.toNat : Int) = n := by simp
theorem wrap32 (n : BitVec 32) : IntKind.wrap .u32 (n.toNat : Int) = n.toNat := IntWalk.u32_in _ (by have := n.isLt; omega)
theorem wrap8 (n : BitVec 8) : IntKind.wrap .u8 (n.toNat : Int) = n.toNat := IntWalk.u8_in _ (by have := n.isLt; omega)
theorem low8 (n : BitVec 32) : IntKind.wrap .u8 (n.toNat : Int) = (n.setWidth 8).toNat := by
  rw [IntKind.wrap_u8, BitVec.toNat_setWidth]; omega
theorem wide32 (x : BitVec 8) : IntKind.wrap .u32 (x.toNat : Int) = (x.setWidth 32).toNat := by
  rw [IntKind.wrap_u32, BitVec.toNat_setWidth]; omega
theorem fdiv32 (n : BitVec 32) (k : Nat) : Int.fdiv (n.toNat : Int) ((2 : Int) ^ k) = ((n >>> k).toNat : Int) := by
  rw [Int.fdiv_eq_ediv_of_nonneg _ (Int.pow_nonneg (by omega)), BitVec.toNat_ushiftRight, Nat.shiftRight_eq_div_pow]
  push_cast
  rfl
theorem shl32 (n : BitVec 32) (k : Nat) : IntKind.wrap .u32 ((n.toNat : Int) * (2 : Int) ^ k) = ((n <<< k).toNat : Int) := by
  rw [IntKind.wrap_u32, BitVec.toNat_shiftLeft, Nat.shiftLeft_eq, Int.natCast_emod, Int.natCast_mul, Int.natCast_pow]
  rfl
theorem i64w (n : Int) (h : -9223372036854775808 ≤ n) (h2 : n ≤ 9223372036854775807) : IntKind.wrap .i64 n = n := IntWalk.i64_in _ ⟨h, h2⟩
theorem i64w_pos (n : Int) (h : 0 ≤ n) (h2 : n ≤ 9223372036854775807) : IntKind.wrap .i64 n = n := IntWalk.i64_in _ ⟨by omega, h2⟩
theorem u64w (n : Int) (h : 0 ≤ n) (h2 : n ≤ 9223372036854775807) : IntKind.wrap .u64 n = n := by rw [IntKind.wrap_u64]; omega
theorem u8b (x : UInt8) : ((x.toNat : Nat) : Int) = (x.toBitVec.toNat : Int) := rfl
def n32 (n : BitVec 32) : Value := .int .u32 n.toNat
theorem n32_inj {m n : BitVec 32} : ((m.toNat : Int) == (n.toNat : Int)) = decide (m = n) := by
  by_cases h : m = n
  · subst h; simp
  · have : ¬ (m.toNat : Int) = n.toNat := fun e => h (BitVec.eq_of_toNat_eq (by omega))
    simp [h, this]
end Go.Proofs.YtpolbdakhfcilaaGreatDoorEng
