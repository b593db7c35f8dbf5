/-
  What came in, told without a reading: the shape of a value of a type, as far down as fuel goes; and that it stays.
-/
import Derived.Test.YtpolbdakhfcilaaGreatDoorEngM
import Derived.ChangeArms
import Derived.OpenShut
namespace Go.Proofs.YtpolbdakhfcilaaGreatDoorEng
open Go
set_option linter.unusedSimpArgs false
set_option linter.unusedVariables false

/-- The cells cs hold a value of the type t. -/
def Is (B : Nat) (P : Program) (w : World) : Nat → TypeId → List Value → Prop
  | 0, _, _ => True
  | n + 1, t, cs => match P.underlying t with
    | some .bool => ∃ b, cs = [.bool b]
    | some (.int k) => ∃ i, cs = [.int k i] ∧ (Lit.int k i).wf = true
    | some .string => ∃ s : ByteArray, cs = [.string s] ∧ s.size ≤ B
    | some (.slice e) => ∃ a len cap, cs = [.slice a len cap] ∧ len ≤ cap ∧ cap ≤ B ∧ (a = none → cap = 0) ∧ ∀ A, a = some A → ∀ i, i < cap → ∃ es, w.cells? 0 (A.add (i * P.cellsOf e)) (P.cellsOf e) = some es ∧ Is B P w n e es
    | some (.pointer e) => cs = [.pointer none] ∨ ∃ A es, cs = [.pointer (some A)] ∧ w.cells? 0 A (P.cellsOf e) = some es ∧ Is B P w n e es
    | some (.struct fs) => cs.length = P.cellsOf t ∧ ∀ (i : Nat) (f : Field), fs[i]? = some f → Is B P w n f.type ((cs.drop f.offset).take (P.cellsOf f.type))
    | some (.array m e) => cs.length = P.cellsOf t ∧ ∀ i, i < m → Is B P w n e ((cs.drop (i * P.cellsOf e)).take (P.cellsOf e))
    | _ => True

/-- What is known of how much there is. -/
structure Meas (H : Type) (Ok : DataW H → Prop) (B : Nat) : Prop where
  slice : ∀ es sp, Ok (.slice es sp) → es.length + sp.length ≤ maxLen → es.length + sp.length ≤ B
  sub : ∀ es sp d, Ok (.slice es sp) → d ∈ es ++ sp → Ok d
  agg : ∀ ps d, Ok (.agg ps) → d ∈ ps → Ok d
  ptr : ∀ d, Ok (.ptr d) → Ok d
  str : ∀ bytes, Ok (.lit (.string bytes)) → bytes.length ≤ maxLen → bytes.length ≤ B
theorem meas_any (H : Type) : Meas H (fun _ => True) maxLen := ⟨fun _ _ _ h => h, fun _ _ _ _ _ => trivial, fun _ _ _ _ => trivial, fun _ _ => trivial, fun _ _ h => h⟩

theorem is_of_trod {H : Type} {Ok : DataW H → Prop} {B : Nat} (M : Meas H Ok B) {enc : TypeId × Value → H} {P : Program} {w : World} {held : Bool} : ∀ (n : Nat) {t : TypeId} {cs : List Value} {fuel : Nat} {x : DataW H × List MemPlace}, DataW.trod enc P w 0 (fun _ => true) held fuel t cs = some x → Ok x.1 → Is B P w n t cs
  | 0, _, _, _, _, _, _ => by unfold Is; trivial
  | n + 1, t, cs, fuel, x, h, hok => by
    unfold Is
    split
    · rename_i ht
      obtain ⟨b, hb, _⟩ := DataW.trod_bool ht h
      exact ⟨b, hb⟩
    · rename_i ht
      obtain ⟨b, hb, _, hw⟩ := DataW.trod_int ht h
      exact ⟨b, hb, hw⟩
    · rename_i ht
      obtain ⟨b, hb, hx, hw⟩ := DataW.trod_string ht h
      subst hx
      refine ⟨b, hb, ?_⟩
      have := M.str _ hok (by simpa using hw)
      simpa using this
    · rename_i e ht
      rcases DataW.trod_slice ht h with ⟨h0, _⟩ | ⟨a, len, cap, elems, rest, m, _, hcs, hx, _, hl, hm, hlen, hel, hsp, _⟩
      · exact ⟨none, 0, 0, h0, Nat.le_refl _, Nat.zero_le _, (fun _ => rfl), (fun A hA => by cases hA)⟩
      · subst hx
        refine ⟨some a, len, cap, hcs, hl, ?_, (fun hA => by cases hA), fun A hA i hi => ?_⟩
        · have := M.slice _ _ hok (by simp [hlen, (hsp rfl).1]; omega)
          simp [hlen, (hsp rfl).1] at this
          omega
        cases hA
        have hbind : ∃ y, y ∈ elems ++ rest ∧ (w.cells? 0 (a.add (i * P.cellsOf e)) (P.cellsOf e)).bind (DataW.trod enc P w 0 (fun _ => true) held m e) = some y := by
          by_cases h1 : i < len
          · exact ⟨elems[i], List.mem_append_left _ (List.getElem_mem _), by rw [hel i h1, List.getElem?_eq_getElem (by omega)]⟩
          · obtain ⟨hrl, hr⟩ := hsp rfl
            have h2 := hr (i - len) (by omega)
            rw [show len + (i - len) = i from by omega] at h2
            exact ⟨rest[i - len], List.mem_append_right _ (List.getElem_mem _), by rw [h2, List.getElem?_eq_getElem (by omega)]⟩
        obtain ⟨y, hym, hy⟩ := hbind
        obtain ⟨es, he, hes⟩ := Option.bind_eq_some_iff.1 hy
        exact ⟨es, he, is_of_trod M n hes (M.sub _ _ _ hok (by rw [← List.map_append]; exact List.mem_map_of_mem hym))⟩
    · rename_i ht
      rcases DataW.trod_pointer ht h with ⟨h0, _⟩ | ⟨a, es, y, m, _, hcs, hx, he, hy⟩
      · exact .inl h0
      · subst hx
        exact .inr ⟨a, es, hcs, he, is_of_trod M n hy (M.ptr _ hok)⟩
    · rename_i ht
      obtain ⟨xs, m, _, hx, hl, hxs, hf⟩ := DataW.trod_struct ht h
      refine ⟨hl, fun i f hi => ?_⟩
      have h1 := hf i f hi
      have h2 : i < xs.length := by rw [hxs]; exact (Array.getElem?_eq_some_iff.1 hi).1
      rw [List.getElem?_eq_getElem h2] at h1
      subst hx
      exact is_of_trod M n h1 (M.agg _ _ hok (List.mem_map_of_mem (List.getElem_mem _)))
    · rename_i ht
      obtain ⟨xs, m, _, hx, hl, hxs, hf⟩ := DataW.trod_array ht h
      refine ⟨hl, fun i hi => ?_⟩
      have h1 := hf i hi
      rw [List.getElem?_eq_getElem (by omega)] at h1
      subst hx
      exact is_of_trod M n h1 (M.agg _ _ hok (List.mem_map_of_mem (List.getElem_mem _)))
    · trivial

theorem cells_keep {S : Nat → Prop} {w w' : World} {a : Addr} {n : Nat} {cs : List Value} (h : w.cells? 0 a n = some cs) (hc : Chg S w w') (hs : ∀ k, k < w.heap.size → ¬ S k) : w'.cells? 0 a n = some cs := by
  by_cases h0 : n = 0
  · subst h0
    unfold World.cells? at h ⊢
    simpa using h
  obtain ⟨_, hl, hcell⟩ := World.cells?_some h
  have hlt : a.block < w.heap.size := by
    have h1 := hcell 0 (by omega)
    rw [List.getElem?_eq_getElem (by omega)] at h1
    rcases Nat.lt_or_ge a.block w.heap.size with h' | h'
    · exact h'
    · have e : (a.add 0).block = a.block := by unfold Addr.add; split <;> rfl
      simp [World.cell?, e, Array.getElem?_eq_none h'] at h1
  rw [← h]
  unfold World.cells?
  congr 2
  funext i
  have e : (a.add i).block = a.block := by unfold Addr.add; split <;> rfl
  unfold World.cell?
  rw [e, hc.block _ hlt (hs _ hlt)]

theorem Is.keep {B : Nat} {P : Program} {S : Nat → Prop} {w w' : World} (hc : Chg S w w') (hs : ∀ k, k < w.heap.size → ¬ S k) : ∀ {n : Nat} {t : TypeId} {cs : List Value}, Is B P w n t cs → Is B P w' n t cs
  | 0, _, _, _ => by unfold Is; trivial
  | n + 1, t, cs, h => by
    unfold Is at h ⊢
    split at h
    · exact h
    · exact h
    · exact h
    · obtain ⟨a, len, cap, h1, h2, h3, h4, h5⟩ := h
      refine ⟨a, len, cap, h1, h2, h3, h4, fun A hA i hi => ?_⟩
      obtain ⟨es, he, hes⟩ := h5 A hA i hi
      exact ⟨es, cells_keep he hc hs, Is.keep hc hs hes⟩
    · rcases h with h | ⟨A, es, h1, h2, h3⟩
      · exact .inl h
      · exact .inr ⟨A, es, h1, cells_keep h2 hc hs, Is.keep hc hs h3⟩
    · exact ⟨h.1, fun i f hf => Is.keep hc hs (h.2 i f hf)⟩
    · exact ⟨h.1, fun i hi => Is.keep hc hs (h.2 i hi)⟩
    · trivial

/-- one step down -/
theorem Is.int {B : Nat} {P : Program} {w : World} {n : Nat} {t : TypeId} {k : IntKind} {cs : List Value} (ht : P.underlying t = some (.int k)) (h : Is B P w (n + 1) t cs) : ∃ i, cs = [.int k i] ∧ (Lit.int k i).wf = true := by
  unfold Is at h; rw [ht] at h; exact h
theorem Is.bool {B : Nat} {P : Program} {w : World} {n : Nat} {t : TypeId} {cs : List Value} (ht : P.underlying t = some .bool) (h : Is B P w (n + 1) t cs) : ∃ b, cs = [.bool b] := by
  unfold Is at h; rw [ht] at h; exact h
theorem Is.str {B : Nat} {P : Program} {w : World} {n : Nat} {t : TypeId} {cs : List Value} (ht : P.underlying t = some .string) (h : Is B P w (n + 1) t cs) : ∃ s : ByteArray, cs = [.string s] ∧ s.size ≤ B := by
  unfold Is at h; rw [ht] at h; exact h
theorem Is.slice {B : Nat} {P : Program} {w : World} {n : Nat} {t e : TypeId} {cs : List Value} (ht : P.underlying t = some (.slice e)) (h : Is B P w (n + 1) t cs) :
    ∃ a len cap, cs = [.slice a len cap] ∧ len ≤ cap ∧ cap ≤ B ∧ (a = none → cap = 0) ∧ ∀ A, a = some A → ∀ i, i < cap → ∃ es, w.cells? 0 (A.add (i * P.cellsOf e)) (P.cellsOf e) = some es ∧ Is B P w n e es := by
  unfold Is at h; rw [ht] at h; exact h
theorem Is.struct {B : Nat} {P : Program} {w : World} {n : Nat} {t : TypeId} {fs : Array Field} {cs : List Value} (ht : P.underlying t = some (.struct fs)) (h : Is B P w (n + 1) t cs) :
    cs.length = P.cellsOf t ∧ ∀ (i : Nat) (f : Field), fs[i]? = some f → Is B P w n f.type ((cs.drop f.offset).take (P.cellsOf f.type)) := by
  unfold Is at h; rw [ht] at h; exact h
theorem Is.field {B : Nat} {P : Program} {w : World} {n i o c : Nat} {t T : TypeId} {fs : Array Field} {f : Field} {cs : List Value} (h : Is B P w (n + 1) t cs) (ht : P.underlying t = some (.struct fs)) (hi : fs[i]? = some f) (hty : f.type = T) (ho : f.offset = o) (hc : P.cellsOf T = c) : Is B P w n T ((cs.drop o).take c) := by
  have := (h.struct ht).2 i f hi
  rw [hty, ho, hc] at this
  exact this
theorem Is.array {B : Nat} {P : Program} {w : World} {n m : Nat} {t e : TypeId} {cs : List Value} (ht : P.underlying t = some (.array m e)) (h : Is B P w (n + 1) t cs) :
    cs.length = P.cellsOf t ∧ ∀ i, i < m → Is B P w n e ((cs.drop (i * P.cellsOf e)).take (P.cellsOf e)) := by
  unfold Is at h; rw [ht] at h; exact h
/-- A row of integers, read. -/
theorem Is.ints {B : Nat} {P : Program} {w : World} {n : Nat} {t e : TypeId} {k : IntKind} {cs : List Value} (ht : P.underlying t = some (.slice e)) (he : P.underlying e = some (.int k)) (hce : P.cellsOf e = 1) (h : Is B P w (n + 2) t cs) :
    ∃ a len cap, cs = [.slice a len cap] ∧ len ≤ cap ∧ cap ≤ B ∧ (a = none → cap = 0) ∧ ∃ zs : List Int, zs.length = len ∧ (∀ z ∈ zs, (Lit.int k z).wf = true) ∧ Reads w a (zs.map (.int k)) := by
  obtain ⟨a, len, cap, h1, h2, h3, h4, h5⟩ := h.slice ht
  refine ⟨a, len, cap, h1, h2, h3, h4, ?_⟩
  have each : ∀ i, i < cap → ∀ A, a = some A → ∃ z : Int, (Lit.int k z).wf = true ∧ w.cell? (A.add i) = some (.int k z) := by
    intro i hi A hA
    obtain ⟨es, he1, he2⟩ := h5 A hA i hi
    obtain ⟨z, rfl, hz⟩ := he2.int he
    rw [hce, Nat.mul_one] at he1
    have h6 := (World.cells?_some he1).2.2 0 (by omega)
    refine ⟨z, hz, ?_⟩
    rw [show (A.add i).add 0 = A.add i from by simp [Addr.add]] at h6
    exact h6
  have build : ∀ m, m ≤ cap → ∃ zs : List Int, zs.length = m ∧ (∀ z ∈ zs, (Lit.int k z).wf = true) ∧ Reads w a (zs.map (.int k)) := by
    intro m
    induction m with
    | zero => exact fun _ => ⟨[], rfl, (fun z hz => by cases hz), (fun j u hu => by simp at hu)⟩
    | succ m ih =>
      intro hm
      obtain ⟨zs, hl, hz, hr⟩ := ih (by omega)
      cases a with
      | none => have := h4 rfl; omega
      | some A =>
        obtain ⟨z, hzw, hzc⟩ := each m (by omega) A rfl
        refine ⟨zs ++ [z], by simp [hl], fun y hy => ?_, fun j u hu => ?_⟩
        · rcases List.mem_append.1 hy with h | h
          · exact hz y h
          · rw [List.mem_singleton.1 h]; exact hzw
        · rw [List.map_append] at hu
          by_cases hj : j < m
          · rw [List.getElem?_append_left (by simpa [hl] using hj)] at hu
            exact hr j u hu
          · have hj' : j = m := by
              have := (List.getElem?_eq_some_iff.1 hu).1
              simp at this
              omega
            subst hj'
            rw [List.getElem?_append_right (by simp [hl])] at hu
            simp [hl] at hu
            subst hu
            exact ⟨A, rfl, hzc⟩
  exact build len h2
end Go.Proofs.YtpolbdakhfcilaaGreatDoorEng
