/-
  Policies: plain forms, in plain Lean.
-/
import Derived.Test.YtpolbdakhfcilaaGreatDoorPolA
set_option linter.unusedVariables false
set_option linter.unusedSimpArgs false
namespace Go.Proofs.YtpolbdakhfcilaaGreatDoor.B
open Go Go.Proofs Go.Proofs.YtpolbdakhfcilaaGreatDoorEng

def opS : Tm → Int
  | .mk op _ _ _ => op
def kidsS : Tm → List Tm
  | .mk _ _ _ ks => ks
def bareS (op : Int) : Tm := .mk op 0 0 []
def filS (op : Int) : Tm := .mk 6 0 0 [bareS op]
/-- Is it an Op alone, or a Filter of it? -/
def saysS (t : Tm) (op : Int) : Bool := decide (opS t = op) || (decide (opS t = 6) && (match kidsS t with
  | [] => false
  | k :: _ => decide (opS k = op)))
def gatherS (op : Int) : List Tm → List Tm
  | [] => []
  | k :: ks => (if opS k = op then kidsS k else [k]) ++ gatherS op ks
def joinS (op : Int) (l : List Tm) (none : Tm) : Tm := match l with
  | [] => none
  | [k] => k
  | k :: j :: l => .mk op 0 0 (k :: j :: l)
def rowS (op : Int) (ks : List Tm) (nothing all : Int) (alone : Int → Tm) : Tm :=
  if 0 ≤ all ∧ (gatherS op ks).any (fun k => saysS k all) = true then alone all else joinS op ((gatherS op ks).filter fun k => !saysS k nothing) (alone nothing)
def headS (ks : List Tm) : Tm := match ks with
  | [] => bareS 0
  | k :: _ => k
def oneS (op : Int) (k : Tm) : Tm :=
  if op = 3 ∧ opS k = 3 then headS (kidsS k) else if op = 3 ∧ opS k ≤ 1 then bareS (1 - opS k) else if op = 10 ∧ opS k = 10 then k else if op = 10 ∧ opS k = 6 then filS 1 else .mk op 0 0 [k]
mutual
def plainS : Tm → Tm
  | .mk op f n ks =>
    if op = 4 then rowS 4 (plainL ks) 1 0 bareS
    else if op = 5 then rowS 5 (plainL ks) 0 1 bareS
    else if op = 8 then rowS 8 (plainL ks) 0 (-1) filS
    else if op = 9 then rowS 9 (plainL ks) 1 0 filS
    else if op = 3 ∨ op = 6 ∨ op = 10 then oneS op (headS (plainL ks))
    else .mk op f n []
def plainL : List Tm → List Tm
  | [] => []
  | k :: ks => plainS k :: plainL ks
end
theorem plainL_map : ∀ ks, plainL ks = ks.map plainS
  | [] => rfl
  | k :: ks => by simp only [plainL, List.map_cons, plainL_map ks]
theorem allS_iff : ∀ {ks : List Tm} {p : Bool}, allS ks p = true ↔ ∀ k ∈ ks, rightS k p = true
  | [], p => by simp [allS]
  | k :: ks, p => by simp only [allS, Bool.and_eq_true, allS_iff (ks := ks), List.forall_mem_cons]

/-! ### what is right -/
theorem r_ops {t : Tm} {p : Bool} (h : rightS t p = true) : 0 ≤ opS t ∧ opS t ≤ 10 ∧ (p = true ↔ opS t ≤ 5) := by
  obtain ⟨op, f, n, ks⟩ := t
  simp only [rightS] at h
  show 0 ≤ op ∧ op ≤ 10 ∧ (p = true ↔ op ≤ 5)
  repeat' split at h
  all_goals first
    | cases h
    | (simp only [Bool.and_eq_true, Bool.not_eq_true'] at h
       rcases p with _ | _
       · first
           | (exfalso; simp at h; done)
           | (refine ⟨by omega, by omega, by simp; omega⟩)
       · first
           | (exfalso; simp at h; done)
           | (refine ⟨by omega, by omega, by simp; omega⟩))
/-- a row -/
theorem r_row {op f n : Int} {ks : List Tm} {p : Bool} (ho : op = 4 ∨ op = 5 ∨ op = 8 ∨ op = 9) : rightS (.mk op f n ks) p = true ↔ (p = true ↔ op ≤ 5) ∧ f = 0 ∧ n = 0 ∧ ks ≠ [] ∧ ∀ k ∈ ks, rightS k p = true := by
  rw [← allS_iff]
  have hne : (0 < ks.length) ↔ ks ≠ [] := List.length_pos_iff
  simp only [rightS]
  rcases ho with rfl | rfl | rfl | rfl <;> rcases p with _ | _ <;> simp [hne, and_assoc]
theorem len_one {ks : List Tm} : ks.length = 1 ↔ ∃ k, ks = [k] := List.length_eq_one_iff
/-- one with one kid -/
theorem r_one {op f n : Int} {ks : List Tm} {p : Bool} (ho : op = 3 ∨ op = 6 ∨ op = 10) : rightS (.mk op f n ks) p = true ↔ (p = true ↔ op ≤ 5) ∧ f = 0 ∧ n = 0 ∧ ∃ k, ks = [k] ∧ rightS k (decide (op ≠ 10)) = true := by
  have e : ∀ q, (ks.length = 1 ∧ allS ks q = true) ↔ ∃ k, ks = [k] ∧ rightS k q = true := fun q => by
    rw [len_one]
    constructor
    · rintro ⟨⟨k, rfl⟩, h⟩
      exact ⟨k, rfl, allS_iff.1 h k (List.mem_singleton.2 rfl)⟩
    · rintro ⟨k, rfl, h⟩
      exact ⟨⟨k, rfl⟩, allS_iff.2 fun j hj => by rw [List.mem_singleton.1 hj]; exact h⟩
  have et := e true
  have ef := e false
  simp only [rightS]
  rcases ho with rfl | rfl | rfl <;> rcases p with _ | _ <;> simp [← et, ← ef, and_assoc]
/-- one without kids -/
theorem r_leaf {op f n : Int} {ks : List Tm} {p : Bool} (ho : op = 0 ∨ op = 1 ∨ op = 2 ∨ op = 7) (h : rightS (.mk op f n ks) p = true) : ks = [] := by
  simp only [rightS] at h
  rcases ho with rfl | rfl | rfl | rfl <;> simp at h
  · exact List.eq_nil_of_length_eq_zero (by have := h.2; simpa using this)
  · exact List.eq_nil_of_length_eq_zero (by have := h.2; simpa using this)
  · exact List.eq_nil_of_length_eq_zero (by have := h.1.1.2; simpa using this)
  · exact List.eq_nil_of_length_eq_zero (by have := h.1.1.2; simpa using this)
theorem r_bare {op f n : Int} {ks : List Tm} {p : Bool} (ho : op = 0 ∨ op = 1) (h : rightS (.mk op f n ks) p = true) : f = 0 ∧ n = 0 ∧ ks = [] := by
  refine ⟨?_, ?_, r_leaf (by omega) h⟩ <;> simp only [rightS] at h <;> rcases ho with rfl | rfl <;> simp at h <;> omega
theorem right_bareS {op : Int} (ho : op = 0 ∨ op = 1) : rightS (bareS op) true = true := by
  rcases ho with rfl | rfl <;> simp [bareS, rightS]
theorem right_filS {op : Int} (ho : op = 0 ∨ op = 1) : rightS (filS op) false = true := by
  unfold filS
  rw [r_one (by simp)]
  exact ⟨by simp, rfl, rfl, _, rfl, by simpa using right_bareS ho⟩
/-- A predicate is no Filter. -/
theorem says_pred {t : Tm} {op : Int} (h : rightS t true = true) : saysS t op = decide (opS t = op) := by
  have := r_ops h
  have hn : opS t ≠ 6 := by have := this.2.2.1 rfl; omega
  simp [saysS, hn]
/-- A policy says so only as a Filter. -/
theorem says_pol {t : Tm} {op : Int} (ho : op = 0 ∨ op = 1) (h : rightS t false = true) : saysS t op = true ↔ t = filS op := by
  obtain ⟨o, f, n, ks⟩ := t
  have hr := r_ops h
  have h5 : ¬ o ≤ 5 := fun h' => by have := hr.2.2.2 h'; cases this
  have hne : o ≠ op := by omega
  by_cases h6 : o = 6
  · subst h6
    obtain ⟨_, rfl, rfl, k, rfl, hk⟩ := (r_one (by simp)).1 h
    obtain ⟨ko, kf, kn, kk⟩ := k
    have e : saysS (.mk 6 0 0 [.mk ko kf kn kk]) op = decide (ko = op) := by simp [saysS, opS, kidsS, hne]; rfl
    rw [e, decide_eq_true_eq]
    constructor
    · rintro rfl
      obtain ⟨rfl, rfl, rfl⟩ := r_bare ho (by simpa using hk)
      rfl
    · intro e
      injection e with _ _ _ e
      injection e with e _
      injection e
  · simp only [saysS, opS, hne, h6, decide_false, Bool.false_or, Bool.false_and, Bool.false_eq_true, false_iff]
    intro e
    injection e with e
    exact h6 e
/-! ### plain ones -/
def rowOk (op nothing all : Int) (k : Tm) : Bool := decide (opS k ≠ op) && !saysS k nothing && !(decide (0 ≤ all) && saysS k all)
def manyS (op nothing all : Int) (ks : List Tm) : Bool := decide (2 ≤ ks.length) && ks.all (rowOk op nothing all)
mutual
def nfS : Tm → Bool
  | .mk op f n ks => nfL ks && (if op = 4 then manyS 4 1 0 ks else if op = 5 then manyS 5 0 1 ks else if op = 8 then manyS 8 0 (-1) ks else if op = 9 then manyS 9 1 0 ks
    else if op = 3 then decide (opS (headS ks) ≠ 3 ∧ ¬ opS (headS ks) ≤ 1) else if op = 10 then decide (opS (headS ks) ≠ 10 ∧ opS (headS ks) ≠ 6) else true)
def nfL : List Tm → Bool
  | [] => true
  | k :: ks => nfS k && nfL ks
end
theorem nfL_iff : ∀ {ks : List Tm}, nfL ks = true ↔ ∀ k ∈ ks, nfS k = true
  | [] => by simp [nfL]
  | k :: ks => by simp only [nfL, Bool.and_eq_true, nfL_iff (ks := ks), List.forall_mem_cons]
theorem mem_gather {op : Int} : ∀ {ks : List Tm} {x : Tm}, x ∈ gatherS op ks ↔ ∃ k ∈ ks, (opS k = op ∧ x ∈ kidsS k) ∨ (opS k ≠ op ∧ x = k)
  | [], x => by simp [gatherS]
  | k :: ks, x => by
    simp only [gatherS, List.mem_append, mem_gather (ks := ks), List.exists_mem_cons]
    by_cases h : opS k = op <;> simp [h]
theorem gather_self {op : Int} : ∀ {ks : List Tm}, (∀ k ∈ ks, opS k ≠ op) → gatherS op ks = ks
  | [], _ => rfl
  | k :: ks, h => by
    simp only [gatherS]
    rw [if_neg (h k (List.mem_cons_self ..)), gather_self fun j hj => h j (List.mem_cons_of_mem _ hj)]
    rfl
theorem rowS_self {op nothing all : Int} {ks : List Tm} {alone : Int → Tm} (h : manyS op nothing all ks = true) : rowS op ks nothing all alone = .mk op 0 0 ks := by
  unfold manyS at h
  rw [Bool.and_eq_true, decide_eq_true_eq, List.all_eq_true] at h
  obtain ⟨h2, h⟩ := h
  have hk : ∀ k ∈ ks, opS k ≠ op ∧ saysS k nothing = false ∧ ¬ (0 ≤ all ∧ saysS k all = true) := fun k hk => by
    have := h k hk
    unfold rowOk at this
    simp only [Bool.and_eq_true, decide_eq_true_eq, Bool.not_eq_true', Bool.and_eq_false_iff, decide_eq_false_iff_not] at this
    refine ⟨this.1.1, this.1.2, fun e => ?_⟩
    rcases this.2 with h' | h'
    · exact h' e.1
    · rw [h'] at e; cases e.2
  unfold rowS
  rw [gather_self fun k h => (hk k h).1, if_neg, List.filter_eq_self.2 fun k h => by rw [(hk k h).2.1]; rfl]
  · match ks, h2 with
    | k :: j :: l, _ => rfl
  · rintro ⟨h0, ha⟩
    obtain ⟨k, hm, hs⟩ := List.any_eq_true.1 ha
    exact (hk k hm).2.2 ⟨h0, hs⟩
/-- A plain one's plain form is itself. -/
theorem plain_self : ∀ (t : Tm) (p : Bool), rightS t p = true → nfS t = true → plainS t = t := by
  intro t
  generalize hs : tsize t = sz
  induction sz using Nat.strongRecOn generalizing t with
  | _ sz ih =>
    intro p hr hn
    subst hs
    obtain ⟨op, f, n, ks⟩ := t
    simp only [nfS, Bool.and_eq_true] at hn
    have hl : ∀ q, (∀ k ∈ ks, rightS k q = true) → plainL ks = ks := fun q hq => by
      rw [plainL_map]
      have : ∀ k ∈ ks, plainS k = k := fun k hk => ih _ (tsize_kid hk) k rfl q (hq k hk) (nfL_iff.1 hn.1 k hk)
      calc ks.map plainS = ks.map id := List.map_congr_left this
        _ = ks := List.map_id _
    have ho := r_ops hr
    simp only [opS] at ho
    have h2 := hn.2
    simp only [plainS]
    by_cases h4 : op = 4
    · obtain ⟨_, rfl, rfl, _, hk⟩ := (r_row (by omega)).1 hr
      rw [if_pos h4] at h2 ⊢
      rw [hl p hk, rowS_self h2, h4]
    rw [if_neg h4] at h2 ⊢
    by_cases h5 : op = 5
    · obtain ⟨_, rfl, rfl, _, hk⟩ := (r_row (by omega)).1 hr
      rw [if_pos h5] at h2 ⊢
      rw [hl p hk, rowS_self h2, h5]
    rw [if_neg h5] at h2 ⊢
    by_cases h8 : op = 8
    · obtain ⟨_, rfl, rfl, _, hk⟩ := (r_row (by omega)).1 hr
      rw [if_pos h8] at h2 ⊢
      rw [hl p hk, rowS_self h2, h8]
    rw [if_neg h8] at h2 ⊢
    by_cases h9 : op = 9
    · obtain ⟨_, rfl, rfl, _, hk⟩ := (r_row (by omega)).1 hr
      rw [if_pos h9] at h2 ⊢
      rw [hl p hk, rowS_self h2, h9]
    rw [if_neg h9] at h2 ⊢
    by_cases h1 : op = 3 ∨ op = 6 ∨ op = 10
    · obtain ⟨_, rfl, rfl, k, rfl, hk⟩ := (r_one h1).1 hr
      rw [if_pos h1, hl _ (fun j hj => by rw [List.mem_singleton.1 hj]; exact hk)]
      have e : headS [k] = k := rfl
      rw [e] at h2 ⊢
      unfold oneS
      rcases h1 with rfl | rfl | rfl
      · simp only [if_true, decide_eq_true_eq] at h2
        rw [if_neg (fun h => h2.1 h.2), if_neg (fun h => h2.2 h.2), if_neg (by simp), if_neg (by simp)]
      · rw [if_neg (by simp), if_neg (by simp), if_neg (by simp), if_neg (by simp)]
      · rw [if_neg (by decide), if_pos rfl, decide_eq_true_eq] at h2
        rw [if_neg (by simp), if_neg (by simp), if_neg (fun h => h2.1 h.2), if_neg (fun h => h2.2 h.2)]
    · rw [if_neg h1]
      rw [r_leaf (by omega) hr]
/-- What stands in a row that has been gathered. -/
theorem gather_ok {op f n : Int} {ks : List Tm} {p : Bool} {nothing all : Int} (ho : op = 4 ∨ op = 5 ∨ op = 8 ∨ op = 9) (hr : ∀ k ∈ ks, rightS k p = true) (hn : ∀ k ∈ ks, nfS k = true)
    (hm : ∀ l, nfS (.mk op 0 0 l) = (nfL l && manyS op nothing all l)) : ∀ x ∈ gatherS op ks, rightS x p = true ∧ nfS x = true ∧ opS x ≠ op := by
  intro x hx
  obtain ⟨k, hk, h | h⟩ := mem_gather.1 hx
  · obtain ⟨ko, kf, kn, kk⟩ := k
    have h1 := h.1
    simp only [opS] at h1
    subst h1
    obtain ⟨_, rfl, rfl, _, h3⟩ := (r_row ho).1 (hr _ hk)
    have h4 := hn _ hk
    rw [hm, Bool.and_eq_true] at h4
    unfold manyS at h4
    rw [Bool.and_eq_true, List.all_eq_true] at h4
    have h5 := h4.2.2 x h.2
    unfold rowOk at h5
    simp only [Bool.and_eq_true, decide_eq_true_eq] at h5
    exact ⟨h3 x h.2, nfL_iff.1 h4.1 x h.2, h5.1.1⟩
  · rw [h.2]
    exact ⟨hr k hk, hn k hk, h.1⟩
theorem row_ok {op : Int} {ks : List Tm} {p : Bool} {nothing all : Int} {alone : Int → Tm} (ho : op = 4 ∨ op = 5 ∨ op = 8 ∨ op = 9) (hp : p = true ↔ op ≤ 5) (hr : ∀ k ∈ ks, rightS k p = true) (hn : ∀ k ∈ ks, nfS k = true)
    (hm : ∀ l, nfS (.mk op 0 0 l) = (nfL l && manyS op nothing all l)) (hal : ∀ x, x = all ∨ x = nothing → 0 ≤ x → rightS (alone x) p = true ∧ nfS (alone x) = true) (hno : 0 ≤ nothing) :
    rightS (rowS op ks nothing all alone) p = true ∧ nfS (rowS op ks nothing all alone) = true := by
  have hg := gather_ok (f := 0) (n := 0) ho hr hn hm
  unfold rowS
  by_cases hf : 0 ≤ all ∧ (gatherS op ks).any (fun k => saysS k all) = true
  · rw [if_pos hf]
    exact hal _ (.inl rfl) hf.1
  rw [if_neg hf]
  have hl : ∀ x ∈ (gatherS op ks).filter (fun k => !saysS k nothing), rightS x p = true ∧ nfS x = true ∧ rowOk op nothing all x = true := fun x hx => by
    obtain ⟨h1, h2⟩ := List.mem_filter.1 hx
    obtain ⟨h3, h4, h5⟩ := hg x h1
    refine ⟨h3, h4, ?_⟩
    unfold rowOk
    simp only [Bool.and_eq_true, decide_eq_true_eq, Bool.not_eq_true', Bool.and_eq_false_iff, decide_eq_false_iff_not]
    refine ⟨⟨h5, by simpa using h2⟩, ?_⟩
    by_cases h6 : 0 ≤ all
    · refine .inr ?_
      cases h7 : saysS x all with
      | false => rfl
      | true => exact absurd ⟨h6, List.any_eq_true.2 ⟨x, h1, h7⟩⟩ hf
    · exact .inl h6
  generalize (gatherS op ks).filter (fun k => !saysS k nothing) = l at hl
  match l, hl with
  | [], _ => exact hal _ (.inr rfl) hno
  | [k], hl => exact ⟨(hl k (List.mem_singleton.2 rfl)).1, (hl k (List.mem_singleton.2 rfl)).2.1⟩
  | k :: j :: l, hl =>
    simp only [joinS]
    refine ⟨(r_row ho).2 ⟨hp, rfl, rfl, by simp, fun x hx => (hl x hx).1⟩, ?_⟩
    rw [hm, Bool.and_eq_true]
    refine ⟨nfL_iff.2 fun x hx => (hl x hx).2.1, ?_⟩
    unfold manyS
    rw [Bool.and_eq_true, List.all_eq_true]
    exact ⟨by simp, fun x hx => (hl x hx).2.2⟩
theorem nf_bareS {op : Int} (ho : op = 0 ∨ op = 1) : nfS (bareS op) = true := by rcases ho with rfl | rfl <;> simp [bareS, nfS, nfL]
theorem nf_filS {op : Int} (ho : op = 0 ∨ op = 1) : nfS (filS op) = true := by rcases ho with rfl | rfl <;> simp [filS, bareS, nfS, nfL]
/-- The plain form of what is right is right, and plain. -/
theorem plain_ok : ∀ (t : Tm) (p : Bool), rightS t p = true → rightS (plainS t) p = true ∧ nfS (plainS t) = true := by
  intro t
  generalize hs : tsize t = sz
  induction sz using Nat.strongRecOn generalizing t with
  | _ sz ih =>
    intro p hr
    subst hs
    obtain ⟨op, f, n, ks⟩ := t
    have hl : ∀ q, (∀ k ∈ ks, rightS k q = true) → ∀ k ∈ plainL ks, rightS k q = true ∧ nfS k = true := fun q hq k hk => by
      rw [plainL_map] at hk
      obtain ⟨j, hj, rfl⟩ := List.mem_map.1 hk
      exact ih _ (tsize_kid hj) j rfl q (hq j hj)
    have ho := r_ops hr
    simp only [opS] at ho
    simp only [plainS]
    by_cases h4 : op = 4
    · subst h4
      obtain ⟨hp, rfl, rfl, _, hk⟩ := (r_row (by omega)).1 hr
      rw [if_pos rfl]
      have hpt : p = true := hp.2 (by omega)
      subst hpt
      exact row_ok (by omega) hp (fun k h => (hl _ hk k h).1) (fun k h => (hl _ hk k h).2) (fun l => by simp [nfS]) (fun x hx h0 => ⟨right_bareS (by omega), nf_bareS (by omega)⟩) (by omega)
    rw [if_neg h4]
    by_cases h5 : op = 5
    · subst h5
      obtain ⟨hp, rfl, rfl, _, hk⟩ := (r_row (by omega)).1 hr
      rw [if_pos rfl]
      have hpt : p = true := hp.2 (by omega)
      subst hpt
      exact row_ok (by omega) hp (fun k h => (hl _ hk k h).1) (fun k h => (hl _ hk k h).2) (fun l => by simp [nfS]) (fun x hx h0 => ⟨right_bareS (by omega), nf_bareS (by omega)⟩) (by omega)
    rw [if_neg h5]
    by_cases h8 : op = 8
    · subst h8
      obtain ⟨hp, rfl, rfl, _, hk⟩ := (r_row (by omega)).1 hr
      rw [if_pos rfl]
      have hpt : p = false := by cases p with
        | false => rfl
        | true => have := hp.1 rfl; omega
      subst hpt
      exact row_ok (by omega) hp (fun k h => (hl _ hk k h).1) (fun k h => (hl _ hk k h).2) (fun l => by simp [nfS]) (fun x hx h0 => ⟨right_filS (by omega), nf_filS (by omega)⟩) (by omega)
    rw [if_neg h8]
    by_cases h9 : op = 9
    · subst h9
      obtain ⟨hp, rfl, rfl, _, hk⟩ := (r_row (by omega)).1 hr
      rw [if_pos rfl]
      have hpt : p = false := by cases p with
        | false => rfl
        | true => have := hp.1 rfl; omega
      subst hpt
      exact row_ok (by omega) hp (fun k h => (hl _ hk k h).1) (fun k h => (hl _ hk k h).2) (fun l => by simp [nfS]) (fun x hx h0 => ⟨right_filS (by omega), nf_filS (by omega)⟩) (by omega)
    rw [if_neg h9]
    by_cases h1 : op = 3 ∨ op = 6 ∨ op = 10
    · obtain ⟨hp, rfl, rfl, k, rfl, hk⟩ := (r_one h1).1 hr
      rw [if_pos h1]
      obtain ⟨g1, g2⟩ := ih _ (tsize_kid (List.mem_singleton.2 rfl)) k rfl _ hk
      have e : headS (plainL [k]) = plainS k := rfl
      rw [e]
      generalize plainS k = k' at g1 g2
      have hko := r_ops g1
      unfold oneS
      by_cases c1 : op = 3 ∧ opS k' = 3
      · rw [if_pos c1]
        obtain ⟨o', f', n', l'⟩ := k'
        have : o' = 3 := c1.2
        subst this
        obtain ⟨_, rfl, rfl, j, rfl, hj⟩ := (r_one (by simp)).1 g1
        simp only [nfS, nfL, Bool.and_eq_true, Bool.and_true] at g2
        have hpt : p = true := hp.2 (by omega)
        subst hpt
        exact ⟨by simpa [kidsS, headS] using hj, g2.1⟩
      rw [if_neg c1]
      by_cases c2 : op = 3 ∧ opS k' ≤ 1
      · rw [if_pos c2]
        have hpt : p = true := hp.2 (by omega)
        subst hpt
        exact ⟨right_bareS (by omega), nf_bareS (by omega)⟩
      rw [if_neg c2]
      have hpf : op ≠ 3 → p = false := fun h => by cases p with
        | false => rfl
        | true => have := hp.1 rfl; omega
      by_cases c3 : op = 10 ∧ opS k' = 10
      · rw [if_pos c3]
        rw [hpf (by omega)]
        refine ⟨?_, g2⟩
        rw [c3.1] at g1
        exact g1
      rw [if_neg c3]
      by_cases c4 : op = 10 ∧ opS k' = 6
      · rw [if_pos c4, hpf (by omega)]
        exact ⟨right_filS (by omega), nf_filS (by omega)⟩
      rw [if_neg c4]
      refine ⟨(r_one h1).2 ⟨hp, rfl, rfl, k', rfl, g1⟩, ?_⟩
      simp only [nfS, nfL, g2, Bool.and_true, Bool.true_and]
      have e : headS [k'] = k' := rfl
      rw [e]
      rcases h1 with rfl | rfl | rfl
      · simp; omega
      · simp
      · simp; omega
    · rw [if_neg h1]
      have := r_leaf (by omega) hr
      subst this
      refine ⟨hr, ?_⟩
      simp only [nfS, nfL, Bool.true_and]
      rw [if_neg h4, if_neg h5, if_neg h8, if_neg h9, if_neg (by omega), if_neg (by omega)]
/-! ### its size -/
theorem kids_size (k : Tm) : lsize (kidsS k) ≤ tsize k ∧ ldepth (kidsS k) ≤ tdepth k := by obtain ⟨o, f, n, l⟩ := k; simp only [kidsS, tsize, tdepth]; omega
theorem gather_size (op : Int) : ∀ ks, lsize (gatherS op ks) ≤ lsize ks ∧ ldepth (gatherS op ks) ≤ ldepth ks
  | [] => by simp [gatherS]
  | k :: ks => by
    have ih := gather_size op ks
    have hk := kids_size k
    simp only [gatherS, lsize_append, ldepth_append, lsize, ldepth]
    by_cases h : opS k = op
    · rw [if_pos h]; omega
    · rw [if_neg h]; simp only [lsize, ldepth]; omega
theorem filter_size (q : Tm → Bool) : ∀ ks, lsize (ks.filter q) ≤ lsize ks ∧ ldepth (ks.filter q) ≤ ldepth ks
  | [] => by simp
  | k :: ks => by
    have ih := filter_size q ks
    rw [List.filter_cons]
    split <;> simp only [lsize, ldepth] <;> omega
theorem row_size {op nothing all : Int} {ks : List Tm} {alone : Int → Tm} {a : Nat} (ha : ∀ x, tsize (alone x) ≤ a ∧ tdepth (alone x) ≤ a) (h2 : a ≤ lsize ks + 1 ∧ a ≤ ldepth ks + 1) : tsize (rowS op ks nothing all alone) ≤ lsize ks + 1 ∧ tdepth (rowS op ks nothing all alone) ≤ ldepth ks + 1 := by
  unfold rowS
  split
  · have := ha all; omega
  · have h1 := gather_size op ks
    have h3 := filter_size (fun k => !saysS k nothing) (gatherS op ks)
    generalize (gatherS op ks).filter (fun k => !saysS k nothing) = l at h3
    match l, h3 with
    | [], _ => simp only [joinS]; have := ha nothing; omega
    | [k], h3 => simp only [joinS, lsize, ldepth] at h3 ⊢; omega
    | k :: j :: l, h3 => simp only [joinS, tsize, tdepth]; omega
theorem pos_size {ks : List Tm} (h : ks ≠ []) : 1 ≤ lsize ks ∧ 1 ≤ ldepth ks := by
  match ks, h with
  | ⟨o, f, n, l⟩ :: ks, _ => simp only [lsize, ldepth, tsize, tdepth]; omega
theorem plain_size : ∀ (t : Tm) (p : Bool), rightS t p = true → tsize (plainS t) ≤ tsize t ∧ tdepth (plainS t) ≤ tdepth t := by
  intro t
  generalize hs : tsize t = sz
  induction sz using Nat.strongRecOn generalizing t with
  | _ sz ih =>
    intro p hr
    subst hs
    obtain ⟨op, f, n, ks⟩ := t
    have hl : ∀ q, (∀ k ∈ ks, rightS k q = true) → lsize (plainL ks) ≤ lsize ks ∧ ldepth (plainL ks) ≤ ldepth ks := fun q hq => by
      have key : ∀ l : List Tm, (∀ k ∈ l, k ∈ ks) → lsize (plainL l) ≤ lsize l ∧ ldepth (plainL l) ≤ ldepth l := by
        intro l
        induction l with
        | nil => intro _; simp [plainL]
        | cons k l ih2 =>
          intro hm
          have h1 := ih _ (tsize_kid (hm k (List.mem_cons_self ..))) k rfl q (hq k (hm k (List.mem_cons_self ..)))
          have h2 := ih2 fun j hj => hm j (List.mem_cons_of_mem _ hj)
          simp only [plainL, lsize, ldepth]
          omega
      exact key ks fun _ h => h
    have hb : ∀ x, tsize (bareS x) ≤ 1 ∧ tdepth (bareS x) ≤ 1 := fun x => by simp [bareS, tsize, tdepth, lsize, ldepth]
    have hf : ∀ x, tsize (filS x) ≤ 2 ∧ tdepth (filS x) ≤ 2 := fun x => by simp [filS, bareS, tsize, tdepth, lsize, ldepth]
    have hne : ks ≠ [] → plainL ks ≠ [] := fun h => by rw [plainL_map]; simpa using h
    simp only [plainS, tsize, tdepth]
    by_cases h4 : op = 4
    · obtain ⟨_, _, _, hn, hk⟩ := (r_row (by omega)).1 hr
      have := row_size (op := 4) (nothing := 1) (all := 0) (ks := plainL ks) hb (by omega)
      have := hl _ hk
      rw [if_pos h4]; omega
    rw [if_neg h4]
    by_cases h5 : op = 5
    · obtain ⟨_, _, _, hn, hk⟩ := (r_row (by omega)).1 hr
      have := row_size (op := 5) (nothing := 0) (all := 1) (ks := plainL ks) hb (by omega)
      have := hl _ hk
      rw [if_pos h5]; omega
    rw [if_neg h5]
    by_cases h8 : op = 8
    · obtain ⟨_, _, _, hn, hk⟩ := (r_row (by omega)).1 hr
      have := pos_size (hne hn)
      have := row_size (op := 8) (nothing := 0) (all := -1) (ks := plainL ks) hf (by omega)
      have := hl _ hk
      rw [if_pos h8]; omega
    rw [if_neg h8]
    by_cases h9 : op = 9
    · obtain ⟨_, _, _, hn, hk⟩ := (r_row (by omega)).1 hr
      have := pos_size (hne hn)
      have := row_size (op := 9) (nothing := 1) (all := 0) (ks := plainL ks) hf (by omega)
      have := hl _ hk
      rw [if_pos h9]; omega
    rw [if_neg h9]
    by_cases h1 : op = 3 ∨ op = 6 ∨ op = 10
    · obtain ⟨_, _, _, k, rfl, hk⟩ := (r_one h1).1 hr
      rw [if_pos h1]
      have g1 := ih _ (tsize_kid (List.mem_singleton.2 rfl)) k rfl _ hk
      have e : headS (plainL [k]) = plainS k := rfl
      rw [e]
      have hp := pos_size (ks := [k]) (by simp)
      simp only [lsize, ldepth] at hp ⊢
      obtain ⟨g3, _⟩ := plain_ok k _ hk
      generalize plainS k = k' at g1 g3
      unfold oneS
      repeat' split
      · rename_i c
        have g2 := kids_size k'
        obtain ⟨o', f', n', l'⟩ := k'
        have : o' = 3 := c.2
        subst this
        obtain ⟨_, rfl, rfl, j, rfl, hj⟩ := (r_one (by simp)).1 g3
        simp only [kidsS, headS, tsize, tdepth, lsize, ldepth] at g1 g2 ⊢
        omega
      · have := hb (1 - opS k'); omega
      · omega
      · have := hf 1; omega
      · simp only [tsize, tdepth, lsize, ldepth]; omega
    · rw [if_neg h1]
      simp only [tsize, tdepth, lsize, ldepth]
      omega
/-- The plain form of the plain form is the plain form. -/
theorem plain_twice {t : Tm} {p : Bool} (h : rightS t p = true) : plainS (plainS t) = plainS t := by
  obtain ⟨h1, h2⟩ := plain_ok t p h
  exact plain_self _ p h1 h2
end Go.Proofs.YtpolbdakhfcilaaGreatDoor.B
