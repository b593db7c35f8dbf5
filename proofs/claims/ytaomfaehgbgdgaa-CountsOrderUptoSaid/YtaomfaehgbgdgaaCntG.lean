/-
  Counts: what a switch states, by the program.
-/
import Derived.Test.YtaomfaehgbgdgaaCntF
import Derived.Test.YtaomfaehgbgdgaaEngS
set_option maxRecDepth 100000
set_option linter.unusedVariables false
set_option linter.unusedSimpArgs false
namespace Go.Proofs.Ytaomfaehgbgdgaa.B
open Go Go.Proofs Go.Proofs.YtaomfaehgbgdgaaEng

/-- some entries are taken out of the map -/
theorem Warm.part {w w' : World} {b r q c : Nat} {L L2 : List En} {V : List Ve} {W G : Nat → Prop} (h : Warm w b r q L V W G) (hs : L2.Sublist L) (hm : w'.heap[r]? = some (.map (L2.map En.me).toArray c)) (hb : ∀ e ∈ L2, e.born < c) (hc : Chg (OnlyB r) w w') : Warm w' b r q L2 V W G := by
  have hne : ∀ x, x ≠ r → ¬ OnlyB r x := fun x hx h => hx h
  refine ⟨hc.blk h.bk (hne b h.nbr), h.fb, h.wr, h.wq, h.nbr, h.nbq, h.nrq, fun x hx => Nat.lt_of_lt_of_le (h.lt x hx) hc.size, h.dis, ⟨c, hm, hb⟩, fun e he => ?_, h.nd1.sublist (hs.map _), h.nd2.sublist (hs.map _), h.nd3.sublist (hs.map _), ?_, fun v hv => ?_, h.vnd1, h.vnd2⟩
  · obtain ⟨g1, g2, g3, g4, g5, g6, g7⟩ := h.ent e (hs.subset he)
    exact ⟨g1, g2.keep hc (hne _ g6), g3, g4, g5, g6, g7⟩
  · obtain ⟨c', g1, g2⟩ := h.vers
    exact ⟨c', hc.blk g1 (hne q (fun e => h.nrq e.symm)), g2⟩
  · obtain ⟨g1, g2, g3, g4⟩ := h.vent v hv
    exact ⟨g1.chg hc fun A hA e => by
      have e' : A.block = r := e
      exact h.dis r h.wr (e' ▸ g3 A hA), g2, g3, g4⟩
theorem erase_filter : ∀ {L : List En} {j : Nat} {e : En}, (L.map En.pl).Nodup → L[j]? = some e → L.eraseIdx j = L.filter (fun x => decide (x.pl ≠ e.pl))
  | [], j, e, _, h => by simp at h
  | x :: L, 0, e, hn, h => by
    simp only [List.getElem?_cons_zero, Option.some.injEq] at h
    subst h
    rw [List.map_cons, List.nodup_cons] at hn
    rw [List.eraseIdx_cons_zero, List.filter_cons_of_neg (by simp)]
    refine (List.filter_eq_self.2 fun y hy => ?_).symm
    exact decide_eq_true fun hh => hn.1 (hh ▸ List.mem_map_of_mem hy)
  | x :: L, j + 1, e, hn, h => by
    rw [List.getElem?_cons_succ] at h
    rw [List.map_cons, List.nodup_cons] at hn
    have hx : x.pl ≠ e.pl := fun hh => hn.1 (hh ▸ List.mem_map_of_mem (List.mem_of_getElem? h))
    rw [List.eraseIdx_cons_succ, List.filter_cons_of_pos (by simp [hx]), erase_filter hn.2 h]
theorem erase_map {α β : Type} (f : α → β) : ∀ (l : List α) (j : Nat), (l.map f).eraseIdx j = (l.eraseIdx j).map f
  | [], j => rfl
  | x :: l, 0 => rfl
  | x :: l, j + 1 => by
    show f x :: (l.map f).eraseIdx j = f x :: (l.eraseIdx j).map f
    rw [erase_map f l j]
/-- an entry is taken out -/
theorem delete_place {w : World} {b r q c : Nat} {L : List En} {V : List Ve} {W G : Nat → Prop} {e : En} {t : TypeId} {K : Value → World → Prop} {E : PanW} (h : Warm w b r q L V W G) (hm : w.heap[r]? = some (.map (L.map En.me).toArray c)) (hb : ∀ e ∈ L, e.born < c) (he : e ∈ L)
    (hK : ∀ w', w'.heap[r]? = some (.map ((L.filter fun x => decide (x.pl ≠ e.pl)).map En.me).toArray c) → Warm w' b r q (L.filter fun x => decide (x.pl ≠ e.pl)) V W G → Chg (OnlyB r) w w' → w'.heap.size = w.heap.size → K (.tuple #[]) w') :
    runV Try.prog (Builtin.delete_ #[66, 71] t #[.map (some r), plV e.pl]) w K E := by
  have hp := (h.ent e he).1
  rcases find_place (w := w) (fun e he => (h.ent e he).1) hp w with ⟨h2, h3⟩ | ⟨j, e', h2, h3, h4⟩
  · exact absurd rfl (h3 e he)
  have hee : e' = e := nodup_inj h.nd1 (List.mem_of_getElem? h3) he h4
  subst hee
  have hrun : (Builtin.delete_ #[66, 71] t #[.map (some r), plV e'.pl]).run Try.prog w = .ok (.tuple #[]) { w with heap := w.heap.setIfInBounds r (.map ((L.map En.me).toArray.eraseIdxIfInBounds j) c) } := by
    simp [Builtin.delete_, run_underlying map66, MapKept.run_getObj_map hm, check71 hp, h2, MapKept.run_setObj_map _ hm, Result.andThen]
  have harr : (L.map En.me).toArray.eraseIdxIfInBounds j = ((L.filter fun x => decide (x.pl ≠ e'.pl)).map En.me).toArray := by
    rw [← erase_filter h.nd1 h3]
    apply Array.toList_inj.1
    rw [Array.toList_eraseIdxIfInBounds]
    show (L.map En.me).eraseIdx j = (L.eraseIdx j).map En.me
    exact erase_map En.me L j
  rw [harr] at hrun
  unfold runV
  rw [hrun]
  obtain ⟨s1, s2, s3⟩ := chg_set (o' := .map ((L.filter fun x => decide (x.pl ≠ e'.pl)).map En.me).toArray c) hm
  exact hK _ s1 (h.part List.filter_sublist s1 (fun x hx => hb x (List.mem_filter.1 hx).1) s2) s2 s3
def mineS (sw : Int) (p : Pl) : Bool := decide (p.1 = sw) && !p.2.1
def takeS (sw : Int) (L : List En) (seen : Array Nat) : List En := L.filter fun e => !(mineS sw e.pl && seen.contains e.born)
theorem takeS_step {sw : Int} {L : List En} {seen : Array Nat} {e : En} (hn : (L.map En.born).Nodup) (hn1 : (L.map En.pl).Nodup) (he : e ∈ L) :
    takeS sw L (seen.push e.born) = if mineS sw e.pl = true then (takeS sw L seen).filter (fun x => decide (x.pl ≠ e.pl)) else takeS sw L seen := by
  have key : ∀ x : En, (seen.push e.born).contains x.born = (seen.contains x.born || (x.born == e.born)) := fun x => by
    rw [Array.contains_push]
  by_cases hm : mineS sw e.pl = true
  · rw [if_pos hm]
    unfold takeS
    rw [List.filter_filter]
    refine List.filter_congr fun x hx => ?_
    rw [key x]
    by_cases hxe : x.born = e.born
    · have := nodup_inj hn hx he hxe
      subst this
      simp [hm]
    · have h1 : x.pl ≠ e.pl := fun hh => hxe (by rw [nodup_inj hn1 hx he hh])
      have h2 : (x.born == e.born) = false := by simpa using hxe
      rw [h2, decide_eq_true h1]
      simp
  · rw [if_neg hm]
    unfold takeS
    refine List.filter_congr fun x hx => ?_
    rw [key x]
    by_cases hxe : x.born = e.born
    · have := nodup_inj hn hx he hxe
      subst this
      simp [hm]
    · have h2 : (x.born == e.born) = false := by simpa using hxe
      rw [h2]
      simp
theorem cont_filter (L : List En) (f : Pl → Bool) : cont (L.filter fun e => f e.pl) = (cont L).filter fun x => f x.1 := by
  unfold cont
  rw [List.filter_map]
  rfl
theorem left_less {L : List En} {seen : Array Nat} {e : En} (he : e ∈ L) (hs : seen.contains e.born = false) : (L.filter fun x => !(seen.push e.born).contains x.born).length < (L.filter fun x => !seen.contains x.born).length := by
  refine filter_lt (fun x => !seen.contains x.born) (fun x => !(seen.push e.born).contains x.born) (fun x hx => ?_) e (by simpa using hs) (by simp) L he
  have h : (seen.push e.born).contains x.born = false := by simpa using hx
  rw [Array.contains_push, Bool.or_eq_false_iff] at h
  simpa using h.1
theorem not_all_new {seen : Array Nat} {es : Array MapEntry} {last : Nat} (h : ∀ x ∈ es.toList, x.born < last) : (!seen.isEmpty && !es.isEmpty && es.all (fun x => decide (x.born ≥ last))) = false := next_test_false seen es last last h (Nat.le_refl _)
theorem agg3 {p : Pl} {k : Option Addr} {K : Int → Bool → Int → Option Addr → Prop} (hK : K p.1 p.2.1 p.2.2 k) :
    ∃ vs, Value.tuple #[plV p, .pointer k] = .tuple (List.toArray vs) ∧ ∃ u rest, vs = u :: rest ∧ ∃ vs, u = .agg (List.toArray vs) ∧ ∃ u rest1, vs = u :: rest1 ∧ ∃ x, u = .int .u16 x ∧ ∃ u rest2, rest1 = u :: rest2 ∧ ∃ y, u = .bool y ∧ ∃ u rest3, rest2 = u :: rest3 ∧ ∃ z, u = .int .u64 z ∧ rest3 = [] ∧ ∃ u rest4, rest = u :: rest4 ∧ ∃ k, u = .pointer k ∧ rest4 = [] ∧ K x y z k :=
  ⟨_, rfl, _, _, rfl, _, rfl, _, _, rfl, _, rfl, _, _, rfl, _, rfl, _, _, rfl, _, rfl, rfl, _, _, rfl, _, rfl, rfl, hK⟩
end Go.Proofs.Ytaomfaehgbgdgaa.B
