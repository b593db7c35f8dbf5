/-
  Counts: what came in; what is gone.
-/
import Derived.Test.YtaomfaehgbgdgaaCntD
import Derived.Test.YtaomfaehgbgdgaaEngR
set_option maxRecDepth 100000
set_option linter.unusedVariables false
set_option linter.unusedSimpArgs false
namespace Go.Proofs.Ytaomfaehgbgdgaa.B
open Go Go.Proofs Go.Proofs.YtaomfaehgbgdgaaEng

/-- the cells of one held rule; its cookie and its packets -/
def Held (cs : List Value) (ck pk : Int) : Prop := ∃ (x0 x1 x2 x3 x4 x5 x6 x7 x8 x9 x10 x11 x12 x13 x14 x15 x16 x17 x18 x19 x20 x21 x22 x24 x25 x26 : Int) (a : Option Addr) (n c : Nat), cs = [.int .i64 x0, .int .u64 x1, .int .u64 x2, .int .u64 x3, .int .u64 x4, .int .u64 x5, .int .u64 x6, .int .u64 x7, .int .u64 x8, .int .u64 x9, .int .u64 x10, .int .u64 x11, .int .u64 x12, .int .u64 x13, .int .u64 x14, .int .u64 x15, .int .u64 x16, .int .u64 x17, .int .u64 x18, .int .u64 x19, .int .u64 x20, .int .u64 x21, .int .u64 x22, .slice a n c, .int .u64 x24, .int .u64 x25, .int .u64 x26] ∧ x24 = ck ∧ x25 = pk ∧ 0 ≤ ck ∧ ck ≤ 18446744073709551615 ∧ 0 ≤ pk ∧ pk ≤ 18446744073709551615
def HeldAt (w : World) (A : Addr) (ck pk : Int) : Prop := ∃ cs, Held cs ck pk ∧ ∀ i v, cs[i]? = some v → w.cell? (addK A i) = some v
def HRow (w : World) (a : Option Addr) (hs : List (Int × Int)) : Prop := ∀ (j : Nat) (h : Int × Int), hs[j]? = some h → ∃ A, a = some A ∧ HeldAt w (addK A (j * 27)) h.1 h.2
theorem cellKeep {S : Nat → Prop} {w w' : World} {A : Addr} {v : Value} (h : w.cell? A = some v) (hc : Chg S w w') (hs : ∀ k, k < w.heap.size → ¬ S k) : w'.cell? A = some v := by
  have hlt : A.block < w.heap.size := by
    rcases Nat.lt_or_ge A.block w.heap.size with h' | h'
    · exact h'
    · simp [World.cell?, Array.getElem?_eq_none h'] at h
  rw [← h]
  unfold World.cell?
  rw [hc.block _ hlt (hs _ hlt)]
theorem HeldAt.keep {w w' : World} {A : Addr} {ck pk : Int} (h : HeldAt w A ck pk) (hc : Chg NoS w w') : HeldAt w' A ck pk := by
  obtain ⟨cs, h1, h2⟩ := h
  exact ⟨cs, h1, fun i v hv => cellKeep (h2 i v hv) hc fun _ _ x => x⟩
theorem HRow.keep {w w' : World} {a : Option Addr} {hs : List (Int × Int)} (h : HRow w a hs) (hc : Chg NoS w w') : HRow w' a hs := fun j x hj => by
  obtain ⟨A, h1, h2⟩ := h j x hj
  exact ⟨A, h1, h2.keep hc⟩
/-- what a book's sums hold -/
def cont (L : List En) : List (Pl × Nat) := L.map fun e => (e.pl, e.n)
def addC (l : List (Pl × Nat)) (p : Pl) (m : Nat) : List (Pl × Nat) := if p ∈ l.map Prod.fst then l.map (fun x => if x.1 = p then (x.1, satS (x.2 + m)) else x) else l ++ [(p, satS m)]
def goneC (sw : Int) : List (Int × Int) → List (Pl × Nat) → List (Pl × Nat)
  | [], l => l
  | h :: hs, l => goneC sw hs (addC l (sw, false, h.1) h.2.toNat)
theorem goneC_append (sw : Int) : ∀ (a b : List (Int × Int)) (l : List (Pl × Nat)), goneC sw (a ++ b) l = goneC sw b (goneC sw a l)
  | [], b, l => rfl
  | h :: a, b, l => goneC_append sw a b _
theorem cont_keys (L : List En) : (cont L).map Prod.fst = L.map En.pl := by simp [cont, List.map_map, Function.comp_def]
theorem nodup_inj {α β : Type} {f : α → β} : ∀ {l : List α}, (l.map f).Nodup → ∀ {x y : α}, x ∈ l → y ∈ l → f x = f y → x = y
  | [], _, x, y, hx, _, _ => by cases hx
  | z :: l, h, x, y, hx, hy, e => by
    rw [List.map_cons, List.nodup_cons] at h
    rcases List.mem_cons.1 hx with h1 | h1
    · rcases List.mem_cons.1 hy with h2 | h2
      · rw [h1, h2]
      · exact absurd (by rw [← h1, e]; exact List.mem_map_of_mem h2) h.1
    · rcases List.mem_cons.1 hy with h2 | h2
      · exact absurd (by rw [← h2, ← e]; exact List.mem_map_of_mem h1) h.1
      · exact nodup_inj h.2 h1 h2 e
/-- the entry e has grown -/
def growS (e : En) (m : Nat) (x : En) : En := if x.blk = e.blk then { x with n := satS (x.n + m) } else x
/-- a sum grows -/
theorem Warm.add {w w' : World} {b r q k m : Nat} {L : List En} {V : List Ve} {W G : Nat → Prop} {e : En} (h : Warm w b r q L V W G) (he : e ∈ L) (hk : e.blk = k) (hs : SumAt w' k (satS (e.n + m))) (hc : Chg (OnlyB k) w w') :
    Warm w' b r q (L.map (growS e m)) V W G ∧ cont (L.map (growS e m)) = (cont L).map (fun x => if x.1 = e.pl then (x.1, satS (x.2 + m)) else x) := by
  subst hk
  obtain ⟨e1, e2, e3, e4, e5, e6, e7⟩ := h.ent e he
  have hne : ∀ x, x ≠ e.blk → ¬ OnlyB e.blk x := fun x hx h => hx h
  have inj1 : ∀ x ∈ L, x.pl = e.pl → x = e := fun x hx hh => nodup_inj h.nd1 hx he hh
  have inj2 : ∀ x ∈ L, x.blk = e.blk → x = e := fun x hx hh => nodup_inj h.nd2 hx he hh
  let f : En → En := growS e m
  have fpl : ∀ x, (f x).pl = x.pl := fun x => by
    show (if x.blk = e.blk then { x with n := satS (x.n + m) } else x).pl = x.pl
    by_cases hx : x.blk = e.blk
    · rw [if_pos hx]
    · rw [if_neg hx]
  have fbk : ∀ x, (f x).blk = x.blk := fun x => by
    show (if x.blk = e.blk then { x with n := satS (x.n + m) } else x).blk = x.blk
    by_cases hx : x.blk = e.blk
    · rw [if_pos hx]
    · rw [if_neg hx]
  have fbn : ∀ x, (f x).born = x.born := fun x => by
    show (if x.blk = e.blk then { x with n := satS (x.n + m) } else x).born = x.born
    by_cases hx : x.blk = e.blk
    · rw [if_pos hx]
    · rw [if_neg hx]
  have fme : ∀ x, (f x).me = x.me := fun x => by unfold En.me; rw [fpl, fbk, fbn]
  have m1 : (L.map f).map En.me = L.map En.me := by rw [List.map_map]; exact List.map_congr_left fun x _ => fme x
  have m2 : (L.map f).map En.pl = L.map En.pl := by rw [List.map_map]; exact List.map_congr_left fun x _ => fpl x
  have m3 : (L.map f).map En.blk = L.map En.blk := by rw [List.map_map]; exact List.map_congr_left fun x _ => fbk x
  have m4 : (L.map f).map En.born = L.map En.born := by rw [List.map_map]; exact List.map_congr_left fun x _ => fbn x
  refine ⟨⟨hc.blk h.bk (hne b (fun x => e5 x.symm)), h.fb, h.wr, h.wq, h.nbr, h.nbq, h.nrq, fun x hx => Nat.lt_of_lt_of_le (h.lt x hx) hc.size, h.dis, ?_, fun y hy => ?_, by rw [m2]; exact h.nd1, by rw [m3]; exact h.nd2, by rw [m4]; exact h.nd3, ?_, fun v hv => ?_, h.vnd1, h.vnd2⟩, ?_⟩
  · obtain ⟨c, g1, g2⟩ := h.sums
    refine ⟨c, by rw [m1]; exact hc.blk g1 (hne r (fun x => e6 x.symm)), fun y hy => ?_⟩
    obtain ⟨x, hx, rfl⟩ := List.mem_map.1 hy
    rw [fbn]
    exact g2 x hx
  · obtain ⟨x, hx, rfl⟩ := List.mem_map.1 hy
    obtain ⟨g1, g2, g3, g4⟩ := h.ent x hx
    rw [fpl, fbk]
    by_cases hxe : x.blk = e.blk
    · have := inj2 x hx hxe
      subst this
      have fn : (f x).n = satS (x.n + m) := by
        show (if x.blk = x.blk then { x with n := satS (x.n + m) } else x).n = _
        rw [if_pos rfl]
      rw [fn]
      exact ⟨g1, hs, satS_le _, g4⟩
    · have fn : (f x).n = x.n := by
        show (if x.blk = e.blk then { x with n := satS (x.n + m) } else x).n = _
        rw [if_neg hxe]
      rw [fn]
      exact ⟨g1, g2.keep hc (hne _ hxe), g3, g4⟩
  · obtain ⟨c, g1, g2⟩ := h.vers
    exact ⟨c, hc.blk g1 (hne q (fun x => e7 x.symm)), g2⟩
  · obtain ⟨g1, g2, g3, g4⟩ := h.vent v hv
    exact ⟨g1.chg hc fun A hA x => by
      have x' : A.block = e.blk := x
      exact h.dis e.blk e4 (x' ▸ g3 A hA), g2, g3, g4⟩
  · unfold cont
    rw [List.map_map, List.map_map]
    refine List.map_congr_left fun x hx => ?_
    simp only [Function.comp_apply]
    by_cases hxe : x.blk = e.blk
    · have := inj2 x hx hxe
      subst this
      rw [if_pos rfl]
      show ((if x.blk = x.blk then { x with n := satS (x.n + m) } else x).pl, (if x.blk = x.blk then { x with n := satS (x.n + m) } else x).n) = _
      rw [if_pos rfl]
    · rw [if_neg (fun hh => hxe (by rw [inj1 x hx hh]))]
      show ((if x.blk = e.blk then { x with n := satS (x.n + m) } else x).pl, (if x.blk = e.blk then { x with n := satS (x.n + m) } else x).n) = _
      rw [if_neg hxe]
end Go.Proofs.Ytaomfaehgbgdgaa.B
