/-
  A clean form of the walk, sixth part: whole bodies, with loops by what holds at their heads, and calls.
-/
import Derived.Test.YtpolbdakhfcilaaGreatDoorEngE
namespace Go.Proofs.YtpolbdakhfcilaaGreatDoorEng
open Go Go.Proofs.YtpolbdakhfcilaaGreatDoorW.PrintLast
set_option linter.unusedSimpArgs false
set_option linter.unusedVariables false
variable {P : Program}

/-- Which places of the frame are told at a loop's head, or where ways meet, and how. -/
structure Ann where
  σ : Type
  slots : List Nat
  enc : σ → List Value
def Ann.triv : Ann := { σ := Unit, slots := [], enc := fun _ => [] }
def eqL : List Nat → List Nat → Bool
  | [], [] => true
  | a :: l, b :: m => bif Nat.beq a b then eqL l m else false
  | _, _ => false
def planAt : List (Nat × List Nat × List Nat) → Nat → List Nat × List Nat
  | [], _ => ([], [])
  | (j, o, d) :: r, i => bif Nat.beq i j then (o, d) else planAt r i
def annAt : List (List Nat × Ann) → List Nat → Option Ann
  | [], _ => none
  | (q, a) :: r, p => bif eqL p q then some a else annAt r p
def opsW (l : List Oper) : List Nat := l.filterMap (·.dst)
def writes : Code → List Nat
  | .region _ ops _ => opsW ops.toList
  | .seq a b => writes a ++ writes b
  | .cond _ a b => writes a ++ writes b
  | .block _ c => writes c
  | .loop c => writes c
  | .scope c => writes c
  | _ => []
/-- what is written in regions that draw their order -/
def drawn : Code → List Nat
  | .region _ ops draw => if draw then opsW ops.toList else []
  | .seq a b => drawn a ++ drawn b
  | .cond _ a b => drawn a ++ drawn b
  | .block _ c => drawn c
  | .loop c => drawn c
  | .scope c => drawn c
  | _ => []
def look : List Nat → List Value → Nat → Option Value
  | t :: ts, v :: vs, x => bif Nat.beq x t then some v else look ts vs x
  | _, _, _ => none
def inL (l : List Nat) (x : Nat) : Bool := match l with
  | [] => false
  | t :: ts => bif Nat.beq x t then true else inL ts x
def havoc (r : Env) (slots : List Nat) (vals : List Value) (W : List Nat) (junk : Env) : Env := fun t => match look slots vals t with
  | some v => v
  | none => bif inL W t then junk t else r t
def encEq : List Value → List Value → Prop
  | [], [] => True
  | a :: l, b :: m => a = b ∧ encEq l m
  | _, _ => False
theorem encEq_eq : ∀ {l m : List Value}, encEq l m → l = m
  | [], [], _ => rfl
  | a :: l, b :: m, h => by rw [h.1, encEq_eq h.2]
  | [], _ :: _, h => h.elim
  | _ :: _, [], h => h.elim
/-- nothing has been deferred meanwhile -/
def sameD (D' D : List Deferred) (p : Prop) : Prop := match D', D with
  | [], [] => p
  | D', D => D' = D ∧ p
theorem sameD_elim {D' D : List Deferred} {p : Prop} (h : sameD D' D p) : D' = D ∧ p := by
  unfold sameD at h
  split at h
  · exact ⟨rfl, h⟩
  · exact h
def exc : Env := fun _ => undef
/-- whether a plan asks for the form in which calls may write what is old -/
def asksS (ds : List Nat) : Bool := match ds with
  | 999999 :: _ => true
  | _ => false
def dsOf (ds : List Nat) : List Nat := if asksS ds then ds.tail else ds
/-- whether a plan asks for every order -/
def asksF (ds : List Nat) : Bool := match ds with
  | 888888 :: _ => true
  | _ => false
/-- whether a plan tells the orders as a tree -/
def asksT (ds : List Nat) : Bool := match ds with
  | 666666 :: _ => true
  | _ => false
/-- whether a plan asks for parts: 777777, and how many operations each part has -/
def asksM (ds : List Nat) : Bool := match ds with
  | 777777 :: _ => true
  | _ => false
theorem asksT_not {ds : List Nat} (h : asksT ds = true) : asksF ds = false ∧ asksM ds = false := by
  unfold asksT at h
  split at h
  · exact ⟨rfl, rfl⟩
  · cases h
def segsOf : List Nat → List Nat → List (List Nat)
  | _, [] => []
  | l, k :: ks => l.take k :: segsOf (l.drop k) ks
def cwp (P : Program) (pl : Nat → List Nat × List Nat) (la : List Nat → Option Ann) : List Nat → Code → Env → List Deferred → World → Post → Prop
  | _, .skip, r, D, w, K => K .normal r D w
  | _, .label _, r, D, w, K => K .normal r D w
  | _, .region id ops draw, r, D, w, K =>
    if draw then (if asksT (pl id).2 then ∃ S : Nat → Prop, cdrawT P ops S w.drew (treeOf (pl id).2.tail) r D w.drew (K .normal) (fun D c w => K (.panic c) exc D w)
      else if asksF (pl id).2 then ∃ S : Nat → Prop, cdrawF P ops S w.drew ops.size (Array.replicate ops.size false) r D w.drew (K .normal) (fun D c w => K (.panic c) exc D w)
      else if asksM (pl id).2 then cdrawM P ops (segsOf (pl id).1 (pl id).2.tail) r D w.drew (K .normal) (fun D c w => K (.panic c) exc D w)
      else if asksS (pl id).2 then ∃ S : Nat → Prop, cdrawS P ops (dsOf (pl id).2) S w.drew (pl id).1 false r D w.drew (K .normal) (fun D c w => K (.panic c) exc D w)
      else cdraw P ops (dsOf (pl id).2) w.drew (pl id).1 false r D w.drew (K .normal) (fun D c w => K (.panic c) exc D w))
    else cops P ops.toList ops.toList r D w (K .normal) (fun r D c w => K (.panic c) r D w)
  | path, .seq a b, r, D, w, K => (match la path with
    | none => cwp P pl la (0 :: path) a r D w (fun e r D w => match e with
      | .normal => cwp P pl la (1 :: path) b r D w K
      | e => K e r D w)
    | some an => ∃ J : an.σ → World → Prop, (∀ s w, J s w → ∀ junk : Env, cwp P pl la (1 :: path) b (havoc r an.slots (an.enc s) (writes a) junk) D w K) ∧
      cwp P pl la (0 :: path) a r D w (fun e r' D' w => match e with
        | .normal => sameD D' D (∃ s, encEq (an.enc s) (an.slots.map r') ∧ J s w)
        | e => K e r' D' w))
  | path, .cond c x y, r, D, w, K => wBool (val r c) fun t => if t = true then cwp P pl la (0 :: path) x r D w K else cwp P pl la (1 :: path) y r D w K
  | path, .block id c, r, D, w, K => cwp P pl la (0 :: path) c r D w (fun e r D w => match e with
      | .exit i => if i = id then K .normal r D w else K (.exit i) r D w
      | e => K e r D w)
  | path, .loop c, r, D, w, K => (match (la path).getD Ann.triv with
    | an => ∃ (I : an.σ → World → Prop) (μ : an.σ → World → Nat), (∃ s, encEq (an.enc s) (an.slots.map r) ∧ I s w) ∧ ∀ s w, I s w → ∀ junk : Env,
      cwp P pl la (0 :: path) c (havoc r an.slots (an.enc s) (writes c) junk) D w (fun e r' D' w' => match e with
        | .normal => sameD D' D (∃ s', encEq (an.enc s') (an.slots.map r') ∧ I s' w' ∧ μ s' w' < μ s w)
        | e => K e r' D' w'))
  | _, .exit id, r, D, w, K => K (.exit id) r D w
  | _, .ret, r, D, w, K => K .ret r D w
  | _, _, _, _, _, _ => False
def codeOk (P : Program) (n : Nat) (pl : Nat → List Nat × List Nat) : Code → Bool
  | .region id ops draw => ops.toList.all (dstOk n) && (!draw || (asksF (pl id).2 || (asksT (pl id).2 && (decide ((treeOf (pl id).2.tail).dep ≤ ops.size) && okT P ops true (treeOf (pl id).2.tail) (Array.replicate ops.size false)))) || (asksM (pl id).2 && (segsOf (pl id).1 (pl id).2.tail).flatten.length == ops.size && planM P ops (segsOf (pl id).1 (pl id).2.tail) (Array.replicate ops.size false)) || (!asksM (pl id).2 && !asksT (pl id).2 && (pl id).1.length == ops.size && planOk P ops (dsOf (pl id).2) (pl id).1 false (Array.replicate ops.size false)))
  | .seq a b => codeOk P n pl a && codeOk P n pl b
  | .cond _ a b => codeOk P n pl a && codeOk P n pl b
  | .block _ c => codeOk P n pl c
  | .loop c => codeOk P n pl c
  | _ => true

theorem look_map (r : Env) : ∀ (slots : List Nat) (x : Nat), look slots (slots.map r) x = if x ∈ slots then some (r x) else none
  | [], x => by simp [look]
  | t :: ts, x => by
    simp only [look, List.map_cons]
    by_cases h : x = t
    · subst h; simp
    · have h2 : Nat.beq x t = false := by
        cases e : Nat.beq x t with
        | false => rfl
        | true => exact absurd (Nat.eq_of_beq_eq_true e) h
      simp [h2, look_map r ts x, h]
theorem inL_mem : ∀ (l : List Nat) (x : Nat), inL l x = true ↔ x ∈ l
  | [], x => by simp [inL]
  | t :: ts, x => by
    unfold inL
    by_cases h : x = t
    · subst h; simp
    · have h2 : Nat.beq x t = false := by
        cases e : Nat.beq x t with
        | false => rfl
        | true => exact absurd (Nat.eq_of_beq_eq_true e) h
      simp [h2, inL_mem ts x, h]
theorem havoc_self {r r' : Env} {slots W : List Nat} (h : ∀ t, t ∉ W → r' t = r t) : havoc r slots (slots.map r') W r' = r' := by
  funext t
  unfold havoc
  rw [look_map]
  by_cases h1 : t ∈ slots
  · simp [h1]
  · simp only [h1, if_false]
    by_cases h2 : t ∈ W
    · have := (inL_mem W t).2 h2
      simp [this]
    · have : inL W t = false := by
        cases e : inL W t with
        | false => rfl
        | true => exact absurd ((inL_mem W t).1 e) h2
      simp [this, h t h2]

theorem putE_frame {r r0 : Env} {W : List Nat} {d : Option Nat} {v : Value} (h : ∀ t, t ∉ W → r t = r0 t) (hd : ∀ t, d = some t → t ∈ W) : ∀ t, t ∉ W → putE r d v t = r0 t := by
  intro t ht
  cases d with
  | none => exact h t ht
  | some d =>
    have hne : t ≠ d := fun e => ht (e ▸ hd d rfl)
    simp [putE, upd_eq, hne, h t ht]
theorem mem_opsW {l : List Oper} {o : Oper} (ho : o ∈ l) : ∀ t, o.dst = some t → t ∈ opsW l := fun t ht => List.mem_filterMap.2 ⟨o, ho, ht⟩

/-- closed under what code c writes -/
def ClosedF (F : Env → Prop) (W : List Nat) : Prop := ∀ r, F r → ∀ t, t ∈ W → ∀ v, F (upd r t v)
theorem ClosedF.put {F : Env → Prop} {W : List Nat} (h : ClosedF F W) {r : Env} (hr : F r) {d : Option Nat} (hd : ∀ t, d = some t → t ∈ W) (v : Value) : F (putE r d v) := by
  cases d with
  | none => exact hr
  | some d => exact h r hr d (hd d rfl) v
theorem ClosedF.sub {F : Env → Prop} {W W' : List Nat} (h : ClosedF F W) (hs : ∀ t, t ∈ W' → t ∈ W) : ClosedF F W' := fun r hr t ht v => h r hr t (hs t ht) v
theorem closed_frame (r0 : Env) (W : List Nat) : ClosedF (fun r => ∀ t, t ∉ W → r t = r0 t) W := by
  intro r hr t ht v x hx
  have hne : x ≠ t := fun e => hx (e ▸ ht)
  simp [upd_eq, hne, hr x hx]
theorem ClosedF.and {F G : Env → Prop} {W : List Nat} (h : ClosedF F W) (g : ClosedF G W) : ClosedF (fun r => F r ∧ G r) W := fun r hr t ht v => ⟨h r hr.1 t ht v, g r hr.2 t ht v⟩

theorem least {p : Nat → Prop} (h : ∃ k, p k) : ∃ k, p k ∧ ∀ j, p j → k ≤ j := by
  obtain ⟨k, hk⟩ := h
  induction k using Nat.strongRecOn with
  | _ k ih =>
    by_cases hx : ∃ j, j < k ∧ p j
    · obtain ⟨j, hj, hp⟩ := hx
      exact ih j hj hp
    · exact ⟨k, hk, fun j hj => by
        rcases Nat.lt_or_ge j k with h1 | h1
        · exact absurd ⟨j, h1, hj⟩ hx
        · exact h1⟩

theorem cwp_ok {n : Nat} {pl : Nat → List Nat × List Nat} {la : List Nat → Option Ann} (hm : P.follows .mixedOrders = true) :
    ∀ (c : Code) (path : List Nat) (r : Env) (D : List Deferred) (a : Act) (w : World) (K : Post) (Q : Exit → Act → World → Prop) (F : Env → Prop),
      codeOk P n pl c = true → ClosedF F (writes c) → Rl n r D a → F r → cwp P pl la path c r D w K →
      (∀ e r' D' w' a', (∀ ch, e ≠ .panic ch) → e ≠ .outgrown → K e r' D' w' → Rl n r' D' a' → F r' → Q e a' w') →
      (∀ ch rr r' D' w' a', K (.panic ch) rr D' w' → (rr = r' ∨ rr = exc) → Rl n r' D' a' → F r' → Q (.panic ch) a' w') →
      (∀ t, t ∈ drawn c → ∀ ch a v w, Q (.panic ch) (a.put (some t) v) w → Q (.panic ch) a w) → c.wp P Q a w := by
  intro c
  induction c with
  | skip =>
    intro path r D a w K Q F hok hF hr hf h hK hE hQ
    exact wp_skip (hK _ _ _ _ _ (by simp) (by simp) h hr hf)
  | label l =>
    intro path r D a w K Q F hok hF hr hf h hK hE hQ
    exact wp_label (hK _ _ _ _ _ (by simp) (by simp) h hr hf)
  | region id ops draw =>
    intro path r D a w K Q F hok hF hr hf h hK hE hQ
    simp only [codeOk, Bool.and_eq_true, Bool.or_eq_true, Bool.not_eq_true'] at hok
    simp only [cwp] at h
    have hcl : ∀ o ∈ ops.toList, ∀ r v, F r → F (putE r o.dst v) := fun o ho r v hr => hF.put hr (mem_opsW ho) v
    cases draw with
    | false =>
      simp only [Bool.false_eq_true, if_false] at h
      exact wp_region_list (cops_ok F (fun r' D' w' a' hk hr' hf' => hK _ _ _ _ _ (by simp) (by simp) hk hr' hf') (fun ch r' D' w' a' he hr' hf' => hE _ _ _ _ _ _ he (.inl rfl) hr' hf') _ _ _ _ _ hok.1 hcl hr hf h)
    | true =>
      simp only [if_true] at h
      have hQo : ∀ o ∈ ops.toList, ∀ (v : Value) c a w, Q (.panic c) (a.put o.dst v) w → Q (.panic c) a w := fun o ho v c a w hq => by
        cases hd : o.dst with
        | none => rw [hd] at hq; exact hq
        | some t => rw [hd] at hq; exact hQ t (by simp only [drawn, if_true]; exact mem_opsW ho t hd) c a v w hq
      by_cases hAT : asksT (pl id).2 = true
      · rw [if_pos hAT] at h
        obtain ⟨S, h⟩ := h
        have hp : (treeOf (pl id).2.tail).dep ≤ ops.size ∧ okT P ops true (treeOf (pl id).2.tail) (Array.replicate ops.size false) = true := by
          rcases hok.2 with (h1 | h1) | h1
          · rcases h1 with h1 | h1
            · cases h1
            · rcases h1 with h1 | h1
              · rw [(asksT_not hAT).1] at h1; cases h1
              · exact ⟨of_decide_eq_true h1.2.1, h1.2.2⟩
          · rw [(asksT_not hAT).2] at h1; cases h1.1.1
          · have h2 := h1.1.1.2
            rw [hAT] at h2
            cases h2
        refine wp_region_last (S := Kept S w.drew) (ds := []) hm ?_
        exact (cdrawT_ok F hok.1 hcl hQo (fun r' D' w' a' hk hr' hf' => hK _ _ _ _ _ (by simp) (by simp) hk hr' hf') (fun ch r' D' w' a' he hr' hf' => hE _ _ _ _ _ _ he (.inr rfl) hr' hf') _ true ops.size _ r D a w.drew (Kept.refl _ _) hr hf hp.2 hp.1 h).1 rfl
      rw [if_neg hAT] at h
      by_cases hAF : asksF (pl id).2 = true
      · rw [if_pos hAF] at h
        obtain ⟨S, h⟩ := h
        refine wp_region_last (S := Kept S w.drew) (ds := []) hm ?_
        exact cdrawF_ok F hok.1 hcl hQo (fun r' D' w' a' hk hr' hf' => hK _ _ _ _ _ (by simp) (by simp) hk hr' hf') (fun ch r' D' w' a' he hr' hf' => hE _ _ _ _ _ _ he (.inr rfl) hr' hf') ops.size _ r D a w.drew (Kept.refl _ _) hr hf h
      rw [if_neg hAF] at h
      by_cases hAM : asksM (pl id).2 = true
      · rw [if_pos hAM] at h
        have hp : (segsOf (pl id).1 (pl id).2.tail).flatten.length = ops.size ∧ planM P ops (segsOf (pl id).1 (pl id).2.tail) (Array.replicate ops.size false) = true := by
          rcases hok.2 with (h1 | h1) | h1
          · rcases h1 with h1 | h1
            · cases h1
            · rcases h1 with h1 | h1
              · exact absurd h1 hAF
              · exact absurd h1.1 hAT
          · exact ⟨by simpa using h1.1.2, h1.2⟩
          · exact absurd hAM (by simp [h1.1.1.1])
        refine wp_region_any hm ?_
        have := cdrawM_ok (Q := Q) F hok.1 hcl hQo (fun r' D' w' a' hk hr' hf' => hK _ _ _ _ _ (by simp) (by simp) hk hr' hf') (fun ch r' D' w' a' he hr' hf' => hE _ _ _ _ _ _ he (.inr rfl) hr' hf') _ _ r D a w.drew hp.2 hr hf h
        rw [hp.1] at this
        exact this
      rw [if_neg hAM] at h
      have hp0 : (pl id).1.length = ops.size ∧ planOk P ops (dsOf (pl id).2) (pl id).1 false (Array.replicate ops.size false) = true := by
        rcases hok.2 with (h1 | h1) | h1
        · rcases h1 with h1 | h1
          · cases h1
          · rcases h1 with h1 | h1
            · exact absurd h1 hAF
            · exact absurd h1.1 hAT
        · exact absurd h1.1.1 hAM
        · exact ⟨by simpa using h1.1.2, h1.2⟩
      have hp : True ∧ planOk P ops (dsOf (pl id).2) (pl id).1 false (Array.replicate ops.size false) = true := ⟨trivial, hp0.2⟩
      have hlen : (pl id).1.length = ops.size := hp0.1
      by_cases hS : asksS (pl id).2 = true
      · rw [if_pos hS] at h
        obtain ⟨S, h⟩ := h
        refine wp_region_last (S := Kept S w.drew) (ds := dsOf (pl id).2) hm ?_
        exact cdrawS_ok F hok.1 hcl hQo (fun r' D' w' a' hk hr' hf' => hK _ _ _ _ _ (by simp) (by simp) hk hr' hf') (fun ch r' D' w' a' he hr' hf' => hE _ _ _ _ _ _ he (.inr rfl) hr' hf') (pl id).1 false _ r D a w.drew _ hlen.symm hp.2 (fun _ => Kept.refl _ _) hr hf h
      · rw [if_neg hS] at h
        refine wp_region_last (S := SameOld w.drew) (ds := dsOf (pl id).2) hm ?_
        exact cdraw_ok F hok.1 hcl hQo (fun r' D' w' a' hk hr' hf' => hK _ _ _ _ _ (by simp) (by simp) hk hr' hf') (fun ch r' D' w' a' he hr' hf' => hE _ _ _ _ _ _ he (.inr rfl) hr' hf') (pl id).1 false _ r D a w.drew _ hlen.symm hp.2 (fun _ => SameOld.refl _) hr hf h
  | seq x y ihx ihy =>
    intro path r D a w K Q F hok hF hr hf h hK hE hQ
    simp only [codeOk, Bool.and_eq_true] at hok
    simp only [cwp] at h
    have hFx : ClosedF F (writes x) := hF.sub fun t ht => List.mem_append_left _ ht
    have hFy : ClosedF F (writes y) := hF.sub fun t ht => List.mem_append_right _ ht
    refine wp_seq ?_
    have hQ' : ∀ t, t ∈ drawn x → ∀ ch a v w, (Exit.then (y.wp P Q) Q) (.panic ch) (a.put (some t) v) w → (Exit.then (y.wp P Q) Q) (.panic ch) a w := fun t ht ch a v w hq => hQ t (List.mem_append_left _ ht) ch a v w hq
    have hQy : ∀ t, t ∈ drawn y → ∀ ch a v w, Q (.panic ch) (a.put (some t) v) w → Q (.panic ch) a w := fun t ht => hQ t (List.mem_append_right _ ht)
    split at h
    · refine ihx _ r D a w _ _ F hok.1 hFx hr hf h ?_ (fun ch rr r' D' w' a' hk hrr hr' hf' => hE ch rr r' D' w' a' hk hrr hr' hf') hQ'
      intro e r' D' w' a' hne1 hne2 hk hr' hf'
      cases e with
      | normal => exact ihy _ r' D' a' w' K Q F hok.2 hFy hr' hf' hk hK hE hQy
      | exit i => exact hK _ _ _ _ _ hne1 hne2 hk hr' hf'
      | goto l => exact hK _ _ _ _ _ hne1 hne2 hk hr' hf'
      | ret => exact hK _ _ _ _ _ hne1 hne2 hk hr' hf'
      | panic ch => exact absurd rfl (hne1 ch)
      | outgrown => exact absurd rfl hne2
    · rename_i an han
      obtain ⟨J, hJ, h1⟩ := h
      refine ihx _ r D a w _ _ (fun r' => F r' ∧ ∀ t, t ∉ writes x → r' t = r t) hok.1 (hFx.and (closed_frame r _)) hr ⟨hf, fun _ _ => rfl⟩ h1 ?_ (fun ch rr r' D' w' a' hk hrr hr' hf' => hE ch rr r' D' w' a' hk hrr hr' hf'.1) hQ'
      intro e r' D' w' a' hne1 hne2 hk hr' hf'
      cases e with
      | normal =>
        obtain ⟨rfl, s, hs, hj⟩ := sameD_elim hk
        replace hs := encEq_eq hs
        have h2 := hJ s w' hj r'
        rw [hs, havoc_self hf'.2] at h2
        exact ihy _ r' _ a' w' K Q F hok.2 hFy hr' hf'.1 h2 hK hE hQy
      | exit i => exact hK _ _ _ _ _ hne1 hne2 hk hr' hf'.1
      | goto l => exact hK _ _ _ _ _ hne1 hne2 hk hr' hf'.1
      | ret => exact hK _ _ _ _ _ hne1 hne2 hk hr' hf'.1
      | panic ch => exact absurd rfl (hne1 ch)
      | outgrown => exact absurd rfl hne2
  | cond c x y ihx ihy =>
    intro path r D a w K Q F hok hF hr hf h hK hE hQ
    simp only [codeOk, Bool.and_eq_true] at hok
    simp only [cwp] at h
    have hFx : ClosedF F (writes x) := hF.sub fun t ht => List.mem_append_left _ ht
    have hFy : ClosedF F (writes y) := hF.sub fun t ht => List.mem_append_right _ ht
    obtain ⟨b, hb, h1⟩ := wBool_elim h
    have hc : a.eval c = .bool b := by rw [hr.eval]; exact hb
    cases b with
    | true => exact wp_cond_true hc (ihx _ r D a w K Q F hok.1 hFx hr hf (by simpa using h1) hK hE (fun t ht => hQ t (List.mem_append_left _ ht)))
    | false => exact wp_cond_false hc (ihy _ r D a w K Q F hok.2 hFy hr hf (by simpa using h1) hK hE (fun t ht => hQ t (List.mem_append_right _ ht)))
  | block id c ih =>
    intro path r D a w K Q F hok hF hr hf h hK hE hQ
    simp only [codeOk] at hok
    simp only [cwp] at h
    refine wp_block (ih _ r D a w _ _ F hok hF hr hf h ?_ (fun ch rr r' D' w' a' hk hrr hr' hf' => hE ch rr r' D' w' a' hk hrr hr' hf') (fun t ht ch a v w hq => hQ t ht ch a v w hq))
    intro e r' D' w' a' hne1 hne2 hk hr' hf'
    cases e with
    | normal => exact hK _ _ _ _ _ hne1 hne2 hk hr' hf'
    | exit i =>
      simp only [Exit.inBlock]
      dsimp only at hk
      by_cases hi : i = id
      · rw [if_pos hi] at hk ⊢
        exact hK _ _ _ _ _ (by simp) (by simp) hk hr' hf'
      · rw [if_neg hi] at hk ⊢
        exact hK _ _ _ _ _ hne1 hne2 hk hr' hf'
    | goto l => exact hK _ _ _ _ _ hne1 hne2 hk hr' hf'
    | ret => exact hK _ _ _ _ _ hne1 hne2 hk hr' hf'
    | panic ch => exact absurd rfl (hne1 ch)
    | outgrown => exact absurd rfl hne2
  | loop c ih =>
    intro path r D a w K Q F hok hF hr hf h hK hE hQ
    simp only [codeOk] at hok
    simp only [cwp] at h
    generalize (la path).getD Ann.triv = an at h
    obtain ⟨I, μ, ⟨s0, hs0, hI0⟩, hstep⟩ := h
    replace hs0 := encEq_eq hs0
    let Rel : an.σ → Act → World → Prop := fun s a w => ∃ r', Rl n r' D a ∧ F r' ∧ (∀ t, t ∉ writes c → r' t = r t) ∧ an.enc s = an.slots.map r' ∧ I s w
    let Has : Act → World → Nat → Prop := fun a w k => ∃ s, Rel s a w ∧ μ s w = k
    classical
    let m : Act → World → Nat := fun a w => if h : ∃ k, Has a w k then Classical.choose (least h) else 0
    refine wp_loop (fun a w => ∃ s, Rel s a w) m ⟨s0, r, hr, hf, fun _ _ => rfl, hs0, hI0⟩ ?_
    intro a1 w1 hI1
    obtain ⟨s1, hs1⟩ := hI1
    have hex : ∃ k, Has a1 w1 k := ⟨_, s1, hs1, rfl⟩
    obtain ⟨s, hsR, hsμ⟩ := (Classical.choose_spec (least hex)).1
    have hm1 : m a1 w1 = μ s w1 := by
      show (if h : ∃ k, Has a1 w1 k then Classical.choose (least h) else 0) = _
      rw [dif_pos hex]
      exact hsμ.symm
    obtain ⟨r1, hr1, hf1, hfr1, hen1, hI⟩ := hsR
    have h2 := hstep s w1 hI r1
    rw [hen1, havoc_self hfr1] at h2
    refine ih _ r1 D a1 w1 _ _ (fun r' => F r' ∧ ∀ t, t ∉ writes c → r' t = r t) hok (ClosedF.and hF (closed_frame r _)) hr1 ⟨hf1, hfr1⟩ h2 ?_ (fun ch rr r' D' w' a' hk hrr hr' hf' => hE ch rr r' D' w' a' hk hrr hr' hf'.1) (fun t ht ch a v w hq => hQ t ht ch a v w hq)
    intro e r' D' w' a' hne1 hne2 hk hr' hf'
    cases e with
    | normal =>
      obtain ⟨rfl, s', hs', hI', hlt⟩ := sameD_elim hk
      replace hs' := encEq_eq hs'
      have hrel : Rel s' a' w' := ⟨r', hr', hf'.1, hf'.2, hs', hI'⟩
      refine ⟨⟨s', hrel⟩, ?_⟩
      have hex' : ∃ k, Has a' w' k := ⟨_, s', hrel, rfl⟩
      have hle : m a' w' ≤ μ s' w' := by
        show (if h : ∃ k, Has a' w' k then Classical.choose (least h) else 0) ≤ _
        rw [dif_pos hex']
        exact (Classical.choose_spec (least hex')).2 _ ⟨s', hrel, rfl⟩
      omega
    | exit i => exact hK _ _ _ _ _ hne1 hne2 hk hr' hf'.1
    | goto l => exact hK _ _ _ _ _ hne1 hne2 hk hr' hf'.1
    | ret => exact hK _ _ _ _ _ hne1 hne2 hk hr' hf'.1
    | panic ch => exact absurd rfl (hne1 ch)
    | outgrown => exact absurd rfl hne2
  | exit id =>
    intro path r D a w K Q F hok hF hr hf h hK hE hQ
    exact wp_exit (hK _ _ _ _ _ (by simp) (by simp) h hr hf)
  | ret =>
    intro path r D a w K Q F hok hF hr hf h hK hE hQ
    exact wp_ret (hK _ _ _ _ _ (by simp) (by simp) h hr hf)
  | _ =>
    intro path r D a w K Q F hok hF hr hf h hK hE hQ
    exact h.elim

/-! ### a whole function -/
def resL (P : Program) : List ResultVar → Env → World → (List Value → Prop) → Prop
  | [], _, _, K => K []
  | .tmp t :: rest, r, w, K => resL P rest r w fun l => K (r t :: l)
  | .cell a t :: rest, r, w, K => loadW P t (r a) w fun v => resL P rest r w fun l => K (v :: l)
def oneOrTuple : List Value → Value
  | [v] => v
  | l => .tuple l.toArray
def noD (D : List Deferred) (p : Prop) : Prop := match D with
  | [] => p
  | _ => False
theorem noD_elim {D : List Deferred} {p : Prop} (h : noD D p) : D = [] ∧ p := by
  cases D with
  | nil => exact ⟨rfl, h⟩
  | cons a l => exact h.elim
def funPost (P : Program) (res : List ResultVar) (R : Value → World → Prop) (E : PanW) : Post
  | .normal, r, D, w => noD D (resL P res r w fun l => R (oneOrTuple l) w)
  | .ret, r, D, w => noD D (resL P res r w fun l => R (oneOrTuple l) w)
  | .panic c, _, D, w => noD D (E c w)
  | _, _, _, _ => False
def argEnv (args : List Value) : Env := fun t => (args[t]?).getD undef
def bodyOf (fn : Func) : Code := match fn.body with
  | some c => c
  | none => .skip
def cfun (P : Program) (fn : Func) (pl : Nat → List Nat × List Nat) (la : List Nat → Option Ann) (args : List Value) (w : World) (R : Value → World → Prop) (E : PanW) : Prop :=
  cwp P pl la [] (bodyOf fn) (argEnv args) [] w (funPost P fn.results.toList R E)

theorem resL_elim {tmps : Array Value} {r : Env} (hr : ∀ t, tmps.getD t undef = r t) : ∀ {l : List ResultVar} {w : World} {K : List Value → Prop}, resL P l r w K →
    ∃ vs, K vs ∧ (l.mapM (m := Sem) fun
      | .tmp t => pure (tmps.getD t undef)
      | .cell a t => do loadVar t (← asAddr (tmps.getD a undef))).run P w = .ok vs w
  | [], w, K, h => ⟨[], h, by simp⟩
  | .tmp t :: rest, w, K, h => by
    obtain ⟨vs, hk, hrun⟩ := resL_elim hr (l := rest) (K := fun l => K (r t :: l)) h
    exact ⟨_, hk, by rw [List.mapM_cons, Sem.run_bind]; simp only [Sem.run_pure, Result.andThen]; rw [Sem.run_bind, hrun, hr]; rfl⟩
  | .cell a t :: rest, w, K, h => by
    obtain ⟨v, hk1, hld⟩ := loadW_run (P := P) h
    obtain ⟨vs, hk, hrun⟩ := resL_elim hr (l := rest) (K := fun l => K (v :: l)) hk1
    refine ⟨_, hk, ?_⟩
    have h3 : ∃ A, r a = .pointer (some A) := by
      have h4 : loadW P t (r a) w (fun v => resL P rest r w fun l => K (v :: l)) := h
      unfold loadW at h4
      split at h4
      · split at h4
        · split at h4
          · obtain ⟨A, e, _⟩ := wPtr_elim h4; exact ⟨A, e⟩
          · exact h4.elim
        · split at h4
          · exact h4.elim
          · obtain ⟨A, e, _⟩ := wPtr_elim h4; exact ⟨A, e⟩
      · exact h4.elim
    obtain ⟨A, hA⟩ := h3
    have hld2 : (loadVar t A).run P w = .ok v w := by
      rw [hA] at hld
      simpa [Instr.loadAt, Instr.sureAddr] using hld
    rw [List.mapM_cons, Sem.run_bind]
    have h5 : (do loadVar t (← asAddr (tmps.getD a undef)) : Sem Value).run P w = .ok v w := by
      rw [hr, hA]
      simpa [asAddr] using hld2
    simp only [h5, Result.andThen]
    rw [Sem.run_bind, hrun]
    rfl

theorem oneOrTuple_eq (l : List Value) : (if h : l.toArray.size = 1 then l.toArray[0] else Value.tuple l.toArray) = oneOrTuple l := by
  match l with
  | [] => rfl
  | [v] => rfl
  | a :: b :: c => simp [oneOrTuple]

theorem calls_of_cfun {f : FuncId} {fn : Func} {c : Code} {pl : Nat → List Nat × List Nat} {la : List Nat → Option Ann} {args : List Value} {w : World} {R : Value → World → Prop} {E : PanW}
    (hm : P.follows .mixedOrders = true) (hf : P.funcs[f]? = some fn) (hb : fn.body = some c) (hok : codeOk P fn.ntmps pl c = true) (hn : args.length ≤ fn.ntmps)
    (h : cfun P fn pl la args w R E) : Calls P f args.toArray w (endW R E) := by
  refine calls_of_wp hf hb ?_
  unfold cfun at h
  have hbo : bodyOf fn = c := by simp [bodyOf, hb]
  rw [hbo] at h
  refine cwp_ok (n := fn.ntmps) hm c [] (argEnv args) [] _ w _ _ (fun _ => True) hok (fun _ _ _ _ _ => trivial) ⟨?_, ?_, rfl⟩ trivial h ?_ ?_ ?_
  · simp; omega
  · intro t
    unfold argEnv
    rw [Array.getD_eq_getD_getElem?]
    rcases Nat.lt_or_ge t args.length with h1 | h1
    · rw [Array.getElem?_append_left (by simpa using h1)]
      simp
    · rw [Array.getElem?_append_right (by simpa using h1)]
      have : args[t]? = none := by simp [h1]
      rw [this]
      rw [Array.getElem?_replicate]
      split <;> simp
  · intro e r' D' w' a' hne1 hne2 hk hr' _
    have key : ∀ (hk : noD D' (resL P fn.results.toList r' w' fun l => R (oneOrTuple l) w')), a'.defers = [] ∧ ∃ v, (results fn a'.tmps).run P w' = .ok v w' ∧ endW R E (.returned v) w' := by
      intro hk
      obtain ⟨hD, hk⟩ := noD_elim hk
      obtain ⟨vs, hR, hrun⟩ := resL_elim hr'.tmp hk
      refine ⟨by rw [hr'.defers]; exact hD, oneOrTuple vs, ?_, hR⟩
      unfold results
      rw [Sem.run_bind, Array.mapM_eq_mapM_toList]
      rw [Sem.run_map]
      refine Eq.trans (congrArg (fun q => (Result.andThen (Result.andThen q fun (a : List Value) w' => Result.ok a.toArray w') fun (a : Array Value) w' => Sem.run P (pure (if h : a.size = 1 then a[0] else Value.tuple a)) w')) hrun) ?_
      show Result.ok _ w' = _
      congr 1
      exact oneOrTuple_eq vs
    cases e with
    | normal => exact key hk
    | ret => exact key hk
    | exit i => exact hk.elim
    | goto l => exact hk.elim
    | panic ch => exact absurd rfl (hne1 ch)
    | outgrown => exact absurd rfl hne2
  · intro ch rr r' D' w' a' hk _ hr' _
    exact ⟨by rw [hr'.defers]; exact (noD_elim hk).1, (noD_elim hk).2⟩
  · intro t _ ch a1 v w1 hq
    exact ⟨hq.1, hq.2⟩
/-- The same, with each closed fact asked of the kernel alone. -/
theorem calls_of_cfun' {f : FuncId} {fn : Func} {pl : Nat → List Nat × List Nat} {la : List Nat → Option Ann} {args : List Value} {w : World} {R : Value → World → Prop} {E : PanW}
    (hm : P.follows .mixedOrders = true) (hf : P.funcs[f]? = some fn) (hb : fn.body = some (bodyOf fn)) (hok : codeOk P fn.ntmps pl (bodyOf fn) = true) (hn : Nat.ble args.length fn.ntmps = true)
    {F : Prop} (he : F = cfun P fn pl la args w R E) (h : F) : Calls P f args.toArray w (endW R E) :=
  calls_of_cfun hm hf hb hok (Nat.le_of_ble_eq_true hn) (he.mp h)

/-! ### functions that defer: a body 'region; rest', the places that the results are read from laid by the region -/
/-- A result: a value; after a panic what may be anything; or what will stand in a cell. -/
inductive RS where
  | val (v : Value)
  | any
  | cell (p : Value) (t : TypeId)
def rsK : List ResultVar → Env → (List RS → Prop) → Prop
  | [], _, k => k []
  | .tmp t :: l, r, k => rsK l r fun m => k (.val (r t) :: m)
  | .cell a t :: l, r, k => rsK l r fun m => k (.cell (r a) t :: m)
def rsV (v : Value) (k : RS → Prop) : Prop := match v with
  | .int k1 x => k (.val (.int k1 x))
  | .bool x => k (.val (.bool x))
  | .string x => k (.val (.string x))
  | .slice a n c => k (.val (.slice a n c))
  | .pointer p => k (.val (.pointer p))
  | .agg l => k (.val (.agg l))
  | _ => k .any
/-- after a panic: what stands in cells is told by the first environment, the rest by the last, where it is known -/
def rsU : List ResultVar → Env → Env → (List RS → Prop) → Prop
  | [], _, _, k => k []
  | .tmp t :: l, r0, r, k => rsV (r t) fun x => rsU l r0 r fun m => k (x :: m)
  | .cell a t :: l, r0, r, k => rsU l r0 r fun m => k (.cell (r0 a) t :: m)
def resV (P : Program) : List RS → World → (List Value → Prop) → Prop
  | [], _, K => K []
  | .val v :: l, w, K => resV P l w fun vs => K (v :: vs)
  | .any :: l, w, K => ∀ v, resV P l w fun vs => K (v :: vs)
  | .cell p t :: l, w, K => loadW P t p w fun v => resV P l w fun vs => K (v :: vs)
def RSok (tmps : Array Value) : List ResultVar → List RS → Prop
  | [], [] => True
  | .tmp t :: l, .val v :: m => tmps.getD t undef = v ∧ RSok tmps l m
  | .tmp _ :: l, .any :: m => RSok tmps l m
  | .cell a t :: l, .cell p t' :: m => t = t' ∧ tmps.getD a undef = p ∧ RSok tmps l m
  | _, _ => False
def cellsOf : List ResultVar → List Nat
  | [] => []
  | .tmp _ :: l => cellsOf l
  | .cell a _ :: l => a :: cellsOf l
def tmpsOf : List ResultVar → List Nat
  | [] => []
  | .tmp t :: l => t :: tmpsOf l
  | .cell a _ :: l => a :: tmpsOf l
theorem RSok_put {a : Act} {t : Nat} {v : Value} : ∀ {l : List ResultVar} {m : List RS}, (∀ x ∈ tmpsOf l, x ≠ t) → RSok (a.put (some t) v).tmps l m → RSok a.tmps l m
  | [], [], h, hk => trivial
  | .tmp x :: l, .val u :: m, h, hk => by
    refine ⟨?_, RSok_put (fun x hx => h x (List.mem_cons_of_mem _ hx)) hk.2⟩
    have hne := h x List.mem_cons_self
    rw [← hk.1]
    simp only [Act.put, Array.getD_eq_getD_getElem?]
    rw [Array.getElem?_setIfInBounds, if_neg (fun e => hne e.symm)]
  | .tmp x :: l, .any :: m, h, hk => RSok_put (l := l) (m := m) (fun x hx => h x (List.mem_cons_of_mem _ hx)) hk
  | .cell x t' :: l, .cell p t2 :: m, h, hk => by
    refine ⟨hk.1, ?_, RSok_put (fun x hx => h x (List.mem_cons_of_mem _ hx)) hk.2.2⟩
    have hne := h x List.mem_cons_self
    rw [← hk.2.1]
    simp only [Act.put, Array.getD_eq_getD_getElem?]
    rw [Array.getElem?_setIfInBounds, if_neg (fun e => hne e.symm)]
  | [], _ :: _, _, hk => hk.elim
  | .tmp _ :: _, [], _, hk => hk.elim
  | .tmp _ :: _, .cell _ _ :: _, _, hk => hk.elim
  | .cell _ _ :: _, [], _, hk => hk.elim
  | .cell _ _ :: _, .val _ :: _, _, hk => hk.elim
  | .cell _ _ :: _, .any :: _, _, hk => hk.elim
theorem rsK_elim {tmps : Array Value} {r : Env} (hr : ∀ t, tmps.getD t undef = r t) : ∀ {l : List ResultVar} {k : List RS → Prop}, rsK l r k → ∃ m, k m ∧ RSok tmps l m
  | [], k, h => ⟨[], h, trivial⟩
  | .tmp t :: l, k, h => by
    obtain ⟨m, hm, hok⟩ := rsK_elim hr (l := l) h
    exact ⟨_, hm, hr t, hok⟩
  | .cell a t :: l, k, h => by
    obtain ⟨m, hm, hok⟩ := rsK_elim hr (l := l) h
    exact ⟨_, hm, rfl, hr a, hok⟩
theorem rsV_elim {v : Value} {k : RS → Prop} (h : rsV v k) : (k (.val v) ∧ v ≠ undef) ∨ k .any := by
  unfold rsV at h
  split at h
  all_goals first | exact .inr h | exact .inl ⟨h, by simp [undef]⟩
theorem rsU_elim {tmps : Array Value} {r0 r r' : Env} (hr' : ∀ t, tmps.getD t undef = r' t) (hrr : r = r' ∨ r = exc) : ∀ {l : List ResultVar} {k : List RS → Prop}, (∀ t ∈ cellsOf l, tmps.getD t undef = r0 t) → rsU l r0 r k → ∃ m, k m ∧ RSok tmps l m
  | [], k, hr, h => ⟨[], h, trivial⟩
  | .tmp t :: l, k, hr, h => by
    rcases rsV_elim h with ⟨h, hv⟩ | h
    · obtain ⟨m, hm, hok⟩ := rsU_elim hr' hrr (l := l) hr h
      refine ⟨_, hm, ?_, hok⟩
      rcases hrr with rfl | rfl
      · exact hr' t
      · exact absurd rfl hv
    · obtain ⟨m, hm, hok⟩ := rsU_elim hr' hrr (l := l) hr h
      exact ⟨_, hm, hok⟩
  | .cell a t :: l, k, hr, h => by
    obtain ⟨m, hm, hok⟩ := rsU_elim hr' hrr (l := l) (fun t ht => hr t (List.mem_cons_of_mem _ ht)) h
    exact ⟨_, hm, rfl, hr a List.mem_cons_self, hok⟩
theorem resV_elim {tmps : Array Value} : ∀ {l : List ResultVar} {m : List RS} {w : World} {K : List Value → Prop}, RSok tmps l m → resV P m w K →
    ∃ vs, K vs ∧ (l.mapM (m := Sem) fun
      | .tmp t => pure (tmps.getD t undef)
      | .cell a t => do loadVar t (← asAddr (tmps.getD a undef))).run P w = .ok vs w
  | [], [], w, K, hr, h => ⟨[], h, by simp⟩
  | .tmp t :: rest, .val v :: m, w, K, hr, h => by
    obtain ⟨vs, hk, hrun⟩ := resV_elim (l := rest) (m := m) (K := fun l => K (v :: l)) hr.2 h
    exact ⟨_, hk, by rw [List.mapM_cons, Sem.run_bind]; simp only [Sem.run_pure, Result.andThen]; rw [Sem.run_bind, hrun, hr.1]; rfl⟩
  | .tmp t :: rest, .any :: m, w, K, hr, h => by
    obtain ⟨vs, hk, hrun⟩ := resV_elim (l := rest) (m := m) (K := fun l => K (tmps.getD t undef :: l)) hr (h _)
    exact ⟨_, hk, by rw [List.mapM_cons, Sem.run_bind]; simp only [Sem.run_pure, Result.andThen]; rw [Sem.run_bind, hrun]; rfl⟩
  | .cell a t :: rest, .cell p t' :: m, w, K, hr, h => by
    obtain ⟨rfl, hp, hr⟩ := hr
    obtain ⟨v, hk1, hld⟩ := loadW_run (P := P) h
    obtain ⟨vs, hk, hrun⟩ := resV_elim (l := rest) (m := m) (K := fun l => K (v :: l)) hr hk1
    refine ⟨_, hk, ?_⟩
    have h3 : ∃ A, p = .pointer (some A) := by
      have h4 : loadW P t p w (fun v => resV P m w fun l => K (v :: l)) := h
      unfold loadW at h4
      split at h4
      · split at h4
        · split at h4
          · obtain ⟨A, e, _⟩ := wPtr_elim h4; exact ⟨A, e⟩
          · exact h4.elim
        · split at h4
          · exact h4.elim
          · obtain ⟨A, e, _⟩ := wPtr_elim h4; exact ⟨A, e⟩
      · exact h4.elim
    obtain ⟨A, rfl⟩ := h3
    have hld2 : (loadVar t A).run P w = .ok v w := by
      simpa [Instr.loadAt, Instr.sureAddr] using hld
    rw [List.mapM_cons, Sem.run_bind]
    have h5 : (do loadVar t (← asAddr (tmps.getD a undef)) : Sem Value).run P w = .ok v w := by
      rw [hp]
      simpa [asAddr] using hld2
    simp only [h5, Result.andThen]
    rw [Sem.run_bind, hrun]
    rfl
/-- what is deferred, as calls, in its plain form -/
def nrmV : List Value → (List Value → Prop) → Prop
  | [], k => k []
  | v :: l, k => nrmV l fun l => k (v :: l)
theorem nrmV_eq : ∀ (l : List Value) (k : List Value → Prop), nrmV l k = k l
  | [], _ => rfl
  | v :: l, k => nrmV_eq l _
def nrmD : List Deferred → (List (FuncId × List Value) → Prop) → Prop
  | [], k => k []
  | d :: ds, k => match d.target with
    | .fn (.func f) cap => nrmV (d.args.toList ++ cap.toList) fun l => nrmD ds fun r => k ((f, l) :: r)
    | _ => False
def leaveW (P : Program) (rs : List RS) (R : Value → World → Prop) (E : PanW) : List (FuncId × List Value) → FrameMode → World → Prop
  | [], .returning, w => resV P rs w fun l => R (oneOrTuple l) w
  | [], .panicking c, w => E c w
  | [], .run, _ => False
  | d :: ds, u, w => u ≠ .run ∧ (∀ w, (callFunc d.1 d.2.toArray).run P w = .ok (.enter d.1 d.2.toArray) w) ∧ CallsD P d.1 d.2.toArray u w fun
    | .returned _, u', w' => leaveW P rs R E ds (settle u') w'
    | .panicked chain, u', w' => leaveW P rs R E ds (raised u' chain) w'
    | .outgrown, _, _ => False
def funPostD (P : Program) (res : List ResultVar) (r0 : Env) (R : Value → World → Prop) (E : PanW) : Post
  | .normal, r, D, w => rsK res r fun rs => nrmD D fun ds => leaveW P rs R E ds .returning w
  | .ret, r, D, w => rsK res r fun rs => nrmD D fun ds => leaveW P rs R E ds .returning w
  | .panic c, r, D, w => rsU res r0 r fun rs => nrmD D fun ds => leaveW P rs R E ds (.panicking c) w
  | _, _, _, _ => False
def bodyD (fn : Func) : Nat × Array Oper × Code := match fn.body with
  | some (.seq (.region id ops false) c) => (id, ops, c)
  | _ => (0, #[], .skip)
def cfunD (P : Program) (fn : Func) (pl : Nat → List Nat × List Nat) (la : List Nat → Option Ann) (args : List Value) (w : World) (R : Value → World → Prop) (E : PanW) : Prop :=
  cops P (bodyD fn).2.1.toList (bodyD fn).2.1.toList (argEnv args) [] w
    (fun r0 D w => noD D (cwp P pl la [1] (bodyD fn).2.2 r0 [] w (funPostD P fn.results.toList r0 R E))) (fun _ _ _ _ => False)
theorem run_results {fn : Func} {tmps : Array Value} {vs : List Value} {w : World}
    (hrun : (fn.results.toList.mapM (m := Sem) fun
      | .tmp t => pure (tmps.getD t undef)
      | .cell a t => do loadVar t (← asAddr (tmps.getD a undef))).run P w = .ok vs w) : (results fn tmps).run P w = .ok (oneOrTuple vs) w := by
  unfold results
  rw [Sem.run_bind, Array.mapM_eq_mapM_toList]
  rw [Sem.run_map]
  refine Eq.trans (congrArg (fun q => (Result.andThen (Result.andThen q fun (a : List Value) w' => Result.ok a.toArray w') fun (a : Array Value) w' => Sem.run P (pure (if h : a.size = 1 then a[0] else Value.tuple a)) w')) hrun) ?_
  show Result.ok _ w = _
  congr 1
  exact oneOrTuple_eq vs

theorem leaveW_leaves {fn : Func} {tmps : Array Value} {rs : List RS} {R : Value → World → Prop} {E : PanW} (hrs : RSok tmps fn.results.toList rs) :
    ∀ (D : List Deferred) (u : FrameMode) (w : World), (nrmD D fun ds => leaveW P rs R E ds u w) → Leaves P fn tmps (endW R E) D u w
  | [], .returning, w, h => by
    obtain ⟨vs, hk, hr⟩ := resV_elim hrs h
    exact ⟨_, run_results hr, hk⟩
  | [], .panicking c, w, h => h
  | [], .run, w, h => h
  | d :: ds, u, w, h => by
    unfold nrmD at h
    split at h
    · rename_i f cap ht
      obtain ⟨target, dargs⟩ := d
      dsimp only at ht
      subst ht
      rw [nrmV_eq] at h
      -- the rest in its plain form stays what it is
      have key : ∀ (D : List Deferred) (k : List (FuncId × List Value) → Prop), nrmD D k → ∃ l, k l ∧ ∀ k', k' l → nrmD D k' := by
        intro D
        induction D with
        | nil => exact fun k h => ⟨[], h, fun _ h => h⟩
        | cons d D ih =>
          intro k h
          unfold nrmD at h
          split at h
          · rename_i f cap ht
            rw [nrmV_eq] at h
            obtain ⟨l, hl, hk⟩ := ih _ h
            refine ⟨_, hl, fun k' hk' => ?_⟩
            unfold nrmD
            rw [ht]
            dsimp only
            rw [nrmV_eq]
            exact hk _ hk'
          · exact h.elim
      obtain ⟨l, hl, hk⟩ := key _ _ h
      obtain ⟨hu, hent, hcall⟩ := hl
      have ea : (dargs.toList ++ cap.toList).toArray = dargs ++ cap := by apply Array.ext'; simp
      dsimp only at hcall hent
      rw [ea] at hcall hent
      refine leaves_cons (f := f) (args := dargs ++ cap) hu (by simpa [go_sem] using hent w) ?_
      refine hcall.mono ?_
      intro e u' w' he
      cases e with
      | returned v => exact leaveW_leaves hrs ds _ _ (hk _ he)
      | panicked chain => exact leaveW_leaves hrs ds _ _ (hk _ he)
      | outgrown => exact he.elim
    · exact h.elim

theorem calls_of_cfunD {f : FuncId} {fn : Func} {pl : Nat → List Nat × List Nat} {la : List Nat → Option Ann} {args : List Value} {w : World} {R : Value → World → Prop} {E : PanW}
    (hm : P.follows .mixedOrders = true) (hf : P.funcs[f]? = some fn) (hb : fn.body = some (.seq (.region (bodyD fn).1 (bodyD fn).2.1 false) (bodyD fn).2.2))
    (hok1 : (bodyD fn).2.1.toList.all (dstOk fn.ntmps) = true) (hok : codeOk P fn.ntmps pl (bodyD fn).2.2 = true) (hn : Nat.ble args.length fn.ntmps = true)
    (hkeep : (cellsOf fn.results.toList).all (fun t => !inL (writes (bodyD fn).2.2) t) = true) (hdr : (tmpsOf fn.results.toList).all (fun t => !inL (drawn (bodyD fn).2.2) t) = true)
    {G : Prop} (he : G = cfunD P fn pl la args w R E) (h : G) : Calls P f args.toArray w (endW R E) := by
  replace h := he.mp h
  replace hn := Nat.le_of_ble_eq_true hn
  refine calls_of_wp_defers hf hb (wp_seq ?_)
  unfold cfunD at h
  refine wp_region_list (cops_ok (n := fn.ntmps) (fun _ => True) ?_ (fun _ _ _ _ _ h => h.elim) _ _ _ _ _ hok1 (fun _ _ _ _ _ => trivial) ⟨?_, ?_, rfl⟩ trivial h)
  · intro r0 D0 w0 a0 hk hr0 _
    obtain ⟨rfl, hk⟩ := noD_elim hk
    let Q : Exit → Act → World → Prop := fun e a w => match e with
      | .panic ch => ∃ rs, RSok a.tmps fn.results.toList rs ∧ nrmD a.defers fun ds => leaveW P rs R E ds (.panicking ch) w
      | e => bodyPostD P fn (endW R E) e a w
    have hQ : (bodyD fn).2.2.wp P Q a0 w0 := by
      refine cwp_ok (n := fn.ntmps) hm _ [1] r0 [] a0 w0 _ Q (fun r => ∀ t ∈ cellsOf fn.results.toList, r t = r0 t) hok ?_ hr0 (fun _ _ => rfl) hk ?_ ?_ ?_
      · intro r hr t ht v x hx
        have hne : x ≠ t := by
          rintro rfl
          have := List.all_eq_true.1 hkeep x hx
          simp [(inL_mem _ _).2 ht] at this
        simp [upd_eq, hne, hr x hx]
      · intro e r' D' w' a' hne1 hne2 hk hr' _
        have key : (rsK fn.results.toList r' fun rs => nrmD D' fun ds => leaveW P rs R E ds .returning w') → Leaves P fn a'.tmps (endW R E) a'.defers .returning w' := by
          intro hk
          obtain ⟨rs, hk, hrs⟩ := rsK_elim hr'.tmp hk
          rw [hr'.defers]
          exact leaveW_leaves hrs _ _ _ hk
        cases e with
        | normal => exact key hk
        | ret => exact key hk
        | exit i => exact hk.elim
        | goto l => exact hk.elim
        | panic ch => exact absurd rfl (hne1 ch)
        | outgrown => exact absurd rfl hne2
      · intro ch rr r' D' w' a' hk hrr hr' hf'
        obtain ⟨m, hm, hok⟩ := rsU_elim hr'.tmp hrr (fun t ht => (hr'.tmp t).trans (hf' t ht)) hk
        exact ⟨m, hok, by rw [hr'.defers]; exact hm⟩
      · intro t ht ch a1 v w1 hq
        obtain ⟨rs, hok, hl⟩ := hq
        refine ⟨rs, RSok_put (fun x hx => ?_) hok, hl⟩
        rintro rfl
        have := List.all_eq_true.1 hdr x hx
        simp [(inL_mem _ _).2 ht] at this
    intro b k cs
    obtain ⟨e, a', w', hq, harr⟩ := hQ b k cs
    refine ⟨e, a', w', ?_, harr⟩
    cases e with
    | panic ch =>
      obtain ⟨rs, hrs, hk⟩ := hq
      exact leaveW_leaves hrs _ _ _ hk
    | normal => exact hq
    | ret => exact hq
    | exit i => exact hq
    | goto l => exact hq
    | outgrown => exact hq
  · simp; omega
  · intro t
    unfold argEnv
    rw [Array.getD_eq_getD_getElem?]
    rcases Nat.lt_or_ge t args.length with h1 | h1
    · rw [Array.getElem?_append_left (by simpa using h1)]
      simp
    · rw [Array.getElem?_append_right (by simpa using h1)]
      have : args[t]? = none := by simp [h1]
      rw [this]
      rw [Array.getElem?_replicate]
      split <;> simp
/-! ### a long plan, checked step by step -/
def planB (P : Program) (ops : Array Oper) (ds : List Nat) (i : Nat) (late : Bool) (l l' : Array Bool) (late' : Bool) : Bool := match ops.toList[i]? with
  | none => false
  | some o => if isPure P o.op then anyB .any ops l l' i && late' == late
    else if isLoad o.op && !late then takeB .any ops ds l l' i && late' == late
    else if ds.contains i then readyB .any ops l l' i && late' == true
    else !late && readyB .any ops l l' i && late' == late
theorem planOk_cons {P : Program} {ops : Array Oper} {ds : List Nat} {i : Nat} {rest : List Nat} {late late' : Bool} {l l' : Array Bool} (h : planB P ops ds i late l l' late' = true) (hr : planOk P ops ds rest late' l' = true) :
    planOk P ops ds (i :: rest) late l = true := by
  unfold planB at h
  simp only [planOk, nrmB_eq]
  split at h
  · cases h
  · rename_i o ho
    rw [ho]
    dsimp only
    have key : l.setIfInBounds i true = l' := by
      repeat' split at h
      all_goals simp only [Bool.and_eq_true, anyB, takeB, readyB, beq_iff_eq] at h
      · exact h.1.2
      · exact h.1.2
      · exact h.1.2
      · exact h.1.2.2
    rw [key]
    repeat' split at h
    · rename_i h1
      rw [Bool.and_eq_true, beq_iff_eq] at h
      rw [if_pos h1, h.1, ← h.2, hr]; rfl
    · rename_i h1 h2
      rw [Bool.and_eq_true, beq_iff_eq] at h
      rw [if_neg h1, if_pos h2, h.1, ← h.2, hr]; rfl
    · rename_i h1 h2 h3
      rw [Bool.and_eq_true, beq_iff_eq] at h
      rw [h.2] at hr
      rw [if_neg h1, if_neg h2, if_pos h3, h.1, hr]; rfl
    · rename_i h1 h2 h3
      rw [Bool.and_eq_true, Bool.and_eq_true, beq_iff_eq] at h
      rw [if_neg h1, if_neg h2, if_neg h3, h.1.1, h.1.2, ← h.2, hr]; rfl
/-- a way along the edges, given beforehand -/
def pathB (md : Region.Mode) (ops : Array Oper) (i : Nat) : Nat → List Nat → Bool
  | d, [] => (match ops[d]? with
    | some o => o.after.any fun e => Region.binds md e && e.on == i
    | none => false)
  | d, x :: p => (match ops[d]? with
    | some o => o.after.any fun e => Region.binds md e && e.on == x
    | none => false) && pathB md ops i x p
theorem reach_of_path {md : Region.Mode} {ops : Array Oper} {i : Nat} : ∀ {p : List Nat} {d fuel : Nat}, pathB md ops i d p = true → p.length < fuel → Region.reachB md ops i fuel d = true
  | _, _, 0, _, h => by omega
  | [], d, fuel + 1, h, _ => by
    unfold pathB at h
    unfold Region.reachB
    split at h
    · rename_i o ho
      rw [ho]
      dsimp only
      rw [Array.any_eq_true'] at h ⊢
      obtain ⟨e, he, h⟩ := h
      rw [Bool.and_eq_true] at h
      exact ⟨e, he, by rw [h.1, h.2]; rfl⟩
    · cases h
  | x :: p, d, fuel + 1, h, hl => by
    unfold pathB at h
    rw [Bool.and_eq_true] at h
    obtain ⟨h, hp⟩ := h
    unfold Region.reachB
    split at h
    · rename_i o ho
      rw [ho]
      dsimp only
      rw [Array.any_eq_true'] at h ⊢
      obtain ⟨e, he, h⟩ := h
      rw [Bool.and_eq_true, beq_iff_eq] at h
      refine ⟨e, he, ?_⟩
      rw [h.1, h.2, reach_of_path hp (by simpa using hl)]
      simp
    · cases h
def lastP (md : Region.Mode) (ops : Array Oper) (listed : Array Bool) (i : Nat) : List Nat → List (List Nat) → Bool
  | [], _ => true
  | d :: ds, p :: ps => (listed.getD d true || (pathB md ops i d p && Nat.blt p.length ops.size)) && lastP md ops listed i ds ps
  | _ :: _, [] => false
theorem last_of_paths {md : Region.Mode} {ops : Array Oper} {listed : Array Bool} {i : Nat} : ∀ {ds : List Nat} {ps : List (List Nat)}, lastP md ops listed i ds ps = true → Region.lastB md ops listed ds i = true
  | [], _, _ => rfl
  | d :: ds, p :: ps, h => by
    unfold lastP at h
    rw [Bool.and_eq_true] at h
    have ih := last_of_paths h.2
    unfold Region.lastB at ih ⊢
    rw [List.all_cons, ih, Bool.and_true]
    rcases Bool.or_eq_true _ _ ▸ h.1 with h1 | h1
    · rw [h1]; rfl
    · rw [Bool.and_eq_true] at h1
      rw [reach_of_path h1.1 (Nat.blt_eq.mp h1.2), Bool.or_true]
  | _ :: _, [], h => by unfold lastP at h; cases h
/-- a load that may be taken first, with ways given beforehand -/
def planP (P : Program) (ops : Array Oper) (ds : List Nat) (i : Nat) (l l' : Array Bool) (ps : List (List Nat)) : Bool := match ops.toList[i]? with
  | none => false
  | some o => !isPure P o.op && isLoad o.op && Region.noSelect ops && Region.free .any ops l i && (Region.ready .any ops l).contains i && Region.closedB .any ops l && lastP .any ops l i ds ps && (l.setIfInBounds i true == l')
theorem planOk_load {P : Program} {ops : Array Oper} {ds : List Nat} {i : Nat} {rest : List Nat} {l l' : Array Bool} {ps : List (List Nat)} (h : planP P ops ds i l l' ps = true) (hr : planOk P ops ds rest false l' = true) :
    planOk P ops ds (i :: rest) false l = true := by
  refine planOk_cons (l' := l') (late' := false) ?_ hr
  unfold planP at h
  unfold planB
  split at h
  · cases h
  · rename_i o ho
    simp only [Bool.and_eq_true] at h
    obtain ⟨⟨⟨⟨⟨⟨⟨h1, h2⟩, h3⟩, h4⟩, h5⟩, h6⟩, h7⟩, h8⟩ := h
    rw [if_neg (by simpa using h1), if_pos (by rw [h2]; rfl)]
    unfold takeB
    rw [h3, h4, h5, h6, last_of_paths h7, h8]
    rfl
theorem planE_cons {P : Program} {ops : Array Oper} {ds : List Nat} {i : Nat} {fin : Array Bool} {rest : List Nat} {late late' : Bool} {l l' : Array Bool} (h : planB P ops ds i late l l' late' = true) (hr : planE P ops ds fin rest late' l' = true) :
    planE P ops ds fin (i :: rest) late l = true := by
  unfold planB at h
  simp only [planE, nrmB_eq]
  split at h
  · cases h
  · rename_i o ho
    rw [ho]
    dsimp only
    have key : l.setIfInBounds i true = l' := by
      repeat' split at h
      all_goals simp only [Bool.and_eq_true, anyB, takeB, readyB, beq_iff_eq] at h
      · exact h.1.2
      · exact h.1.2
      · exact h.1.2
      · exact h.1.2.2
    rw [key]
    repeat' split at h
    · rename_i h1
      rw [Bool.and_eq_true, beq_iff_eq] at h
      rw [if_pos h1, h.1, ← h.2, hr]; rfl
    · rename_i h1 h2
      rw [Bool.and_eq_true, beq_iff_eq] at h
      rw [if_neg h1, if_pos h2, h.1, ← h.2, hr]; rfl
    · rename_i h1 h2 h3
      rw [Bool.and_eq_true, beq_iff_eq] at h
      rw [h.2] at hr
      rw [if_neg h1, if_neg h2, if_pos h3, h.1, hr]; rfl
    · rename_i h1 h2 h3
      rw [Bool.and_eq_true, Bool.and_eq_true, beq_iff_eq] at h
      rw [if_neg h1, if_neg h2, if_neg h3, h.1.1, h.1.2, ← h.2, hr]; rfl
theorem planE_load {P : Program} {ops : Array Oper} {ds : List Nat} {i : Nat} {fin : Array Bool} {rest : List Nat} {l l' : Array Bool} {ps : List (List Nat)} (h : planP P ops ds i l l' ps = true) (hr : planE P ops ds fin rest false l' = true) :
    planE P ops ds fin (i :: rest) false l = true := by
  refine planE_cons (l' := l') (late' := false) ?_ hr
  unfold planP at h
  unfold planB
  split at h
  · cases h
  · rename_i o ho
    simp only [Bool.and_eq_true] at h
    obtain ⟨⟨⟨⟨⟨⟨⟨h1, h2⟩, h3⟩, h4⟩, h5⟩, h6⟩, h7⟩, h8⟩ := h
    rw [if_neg (by simpa using h1), if_pos (by rw [h2]; rfl)]
    unfold takeB
    rw [h3, h4, h5, h6, last_of_paths h7, h8]
    rfl
theorem planM_cons {P : Program} {ops : Array Oper} {seg : List Nat} {segs : List (List Nat)} {l : Array Bool} (h1 : planE P ops (restOf seg segs) (endsAt l seg) seg false l = true) (h2 : ((List.range (endsAt l seg).size).all fun i => (endsAt l seg).getD i true || (restOf seg segs).contains i) = true) (h3 : planM P ops segs (endsAt l seg) = true) : planM P ops (seg :: segs) l = true := by
  simp only [planM, nrmB_eq, h1, h2, h3, Bool.and_self]
def codeAt : List Nat → Code → Code
  | [], c => c
  | 0 :: l, .seq a _ => codeAt l a
  | 1 :: l, .seq _ b => codeAt l b
  | _, c => c
def opsOf : Code → Array Oper
  | .region _ ops _ => ops
  | _ => #[]
theorem codeOk_seq {P : Program} {n : Nat} {pl : Nat → List Nat × List Nat} {c a b : Code} (h : c = .seq a b) (ha : codeOk P n pl a = true) (hb : codeOk P n pl b = true) : codeOk P n pl c = true := by
  subst h
  simp only [codeOk, ha, hb, Bool.and_self]
theorem codeOk_regionM {P : Program} {n : Nat} {pl : Nat → List Nat × List Nat} {c : Code} {id : Nat} (h : c = .region id (opsOf c) true) (hd : (opsOf c).toList.all (dstOk n) = true) (hM : asksM (pl id).2 = true) (hl : ((segsOf (pl id).1 (pl id).2.tail).flatten.length == (opsOf c).size) = true) (hp : planM P (opsOf c) (segsOf (pl id).1 (pl id).2.tail) (Array.replicate (opsOf c).size false) = true) : codeOk P n pl c = true := by
  rw [h]
  simp only [codeOk, hd, hl, hp, hM, Bool.and_self, Bool.or_true, Bool.true_or, Bool.true_and]
theorem codeOk_region {P : Program} {n : Nat} {pl : Nat → List Nat × List Nat} {c : Code} {id : Nat} (h : c = .region id (opsOf c) true) (hd : (opsOf c).toList.all (dstOk n) = true) (hl : ((pl id).1.length == (opsOf c).size) = true) (hM : asksM (pl id).2 = false) (hp : planOk P (opsOf c) (dsOf (pl id).2) (pl id).1 false (Array.replicate (opsOf c).size false) = true) (hT : asksT (pl id).2 = false := by kernel_rfl) : codeOk P n pl c = true := by
  rw [h]
  simp only [codeOk, hd, hl, hp, hM, hT, Bool.not_false, Bool.and_self, Bool.or_true]
end Go.Proofs.YtpolbdakhfcilaaGreatDoorEng
