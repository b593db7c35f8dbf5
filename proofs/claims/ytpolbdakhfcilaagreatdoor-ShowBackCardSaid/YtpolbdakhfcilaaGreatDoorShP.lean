import Derived.Test.YtpolbdakhfcilaaGreatDoorPaGJ
import Derived.Test.YtpolbdakhfcilaaGreatDoorHdAG
import Derived.Test.YtpolbdakhfcilaaGreatDoorBO
import Derived.Test.YtpolbdakhfcilaaGreatDoorPaC
import Derived.Test.YtpolbdakhfcilaaGreatDoorPaQ
import Derived.Test.YtpolbdakhfcilaaGreatDoorScAI
/-
  show: which policies may be told: the plain law, and looker.right.
-/
set_option maxRecDepth 100000
set_option linter.unusedVariables false
set_option linter.unusedSimpArgs false
namespace Go.Proofs.YtpolbdakhfcilaaGreatDoor.B
open Go Go.Proofs Go.Proofs.YtpolbdakhfcilaaGreatDoorEng Go.RowKit

/-- how many kids at least, at most -/
def loK (op : Int) : Nat := if op = 3 ∨ op = 6 ∨ op = 10 then 1 else if op = 4 ∨ op = 5 ∨ op = 8 ∨ op = 9 then 2 else 0
def hiK (op : Int) : Nat := if op = 3 ∨ op = 6 ∨ op = 10 then 1 else if op = 4 ∨ op = 5 ∨ op = 8 ∨ op = 9 then 4096 else 0
def numK (op f n : Int) : Bool := if op = 2 ∨ op = 7 then H.fitsN f n.toNat else true
mutual
/-- a term's shape: each in its place, its number fits, its kids are as many as must be -/
def shp (pred : Bool) : Tm → Bool
  | .mk op f n ks => decide (0 ≤ op ∧ op ≤ 10) && (pred == decide (op < 6)) && numK op f n && decide (loK op ≤ ks.length ∧ ks.length ≤ hiK op) && shpL (pred || decide (op = 6)) ks
def shpL (pred : Bool) : List Tm → Bool
  | [] => true
  | k :: ks => shp pred k && shpL pred ks
end
theorem shpL_app (p : Bool) : ∀ a b : List Tm, shpL p (a ++ b) = (shpL p a && shpL p b)
  | [], b => by simp [shpL]
  | x :: a, b => by simp only [List.cons_append, shpL, shpL_app p a b, Bool.and_assoc]
theorem shpL_take {p : Bool} {ks : List Tm} {j : Nat} (hj : j < ks.length) : shpL p (ks.take (j + 1)) = (shpL p (ks.take j) && shp p ks[j]) := by
  rw [List.take_add_one, List.getElem?_eq_getElem hj, shpL_app]
  simp [shpL]
theorem shpL_get {p : Bool} : ∀ {ks : List Tm} {j : Nat} (hj : j < ks.length), shpL p ks = true → shp p ks[j] = true
  | k :: ks, 0, _, h => by simp only [shpL, Bool.and_eq_true] at h; exact h.1
  | k :: ks, j + 1, hj, h => by
    simp only [shpL, Bool.and_eq_true] at h
    exact shpL_get (ks := ks) (by simpa using hj) h.2
def okR (pred : Bool) (deep x : Nat) (t : Tm) : Prop := shp pred t = true ∧ deep + tdepth t ≤ 129 ∧ x + tsize t ≤ 4096
instance (pred : Bool) (deep x : Nat) (t : Tm) : Decidable (okR pred deep x t) := by unfold okR; exact inferInstance
theorem okR_kid {pred : Bool} {deep x : Nat} {op f n : Int} {ks : List Tm} (h : okR pred deep x (.mk op f n ks)) {j : Nat} (hj : j < ks.length) : okR (pred || decide (op = 6)) (deep + 1) (x + 1 + lsize (ks.take j)) ks[j] := by
  obtain ⟨h1, h2, h3⟩ := h
  simp only [shp, Bool.and_eq_true] at h1
  simp only [tdepth] at h2
  simp only [tsize] at h3
  have hle2 := lsize_take_le ks (j + 1)
  have hst := lsize_take hj
  have hle3 := ldepth_take_le ks (j + 1)
  have hdt := ldepth_take hj
  exact ⟨shpL_get hj h1.2, by omega, by omega⟩
def Cn (w0 w : World) (kb : Nat) (x : Int) : Prop := w.heap[kb]? = some (.cells #[.int .i64 x] 46 (0, 0)) ∧ Chg NoS w0 w ∧ w0.heap.size ≤ kb
theorem Cn.keep {w0 w w' : World} {kb : Nat} {x : Int} (h : Cn w0 w kb x) (hc : Chg NoS w w') : Cn w0 w' kb x := ⟨hc.blk h.1 (fun x => x), h.2.1.trans hc, h.2.2⟩
theorem Cn.set {w0 w : World} {kb : Nat} {x y : Int} {K : World → Prop} (h : Cn w0 w kb x) (hK : ∀ w', Cn w0 w' kb y → Chg (OnlyB kb) w w' → K w') : setW w ⟨kb, 0, none⟩ (.int .i64 y) K :=
  setW_blk h.1 (by simp) rfl fun w' h1 h2 _ => hK w' ⟨by simpa using h1, h.2.1.trans2 h2 (fun k hk e => by have : k = kb := e; have := h.2.2; omega), h.2.2⟩ h2
theorem right_ok {w0 : World} : ∀ (t : Tm) (A : Addr) (w : World) (kb x deep : Nat) (pred : Bool), TmP w0 t A → Cn w0 w kb x → x ≤ 4096 → 1 ≤ deep → deep ≤ 129 →
    Calls Tryz.prog 12 #[.pointer (some ⟨kb, 0, none⟩), .pointer (some A), .bool pred, .int .i64 (deep : Int)] w (endW (fun v w' => v = .bool (decide (okR pred deep x t)) ∧ ∃ y : Int, Cn w0 w' kb y ∧ Chg (OnlyB kb) w w' ∧ (okR pred deep x t → y = ((x + tsize t : Nat) : Int))) (fun _ _ => False)) := by
  intro t
  generalize hs : tsize t = sz
  induction sz using Nat.strongRecOn generalizing t with
  | _ sz ih =>
    intro A w kb x deep pred ht hC hx1 hd1 hd
    subst hs
    refine F12_calls (some ⟨kb, 0, none⟩) (some A) pred _ ?_
    delta F12
    refine some_w ⟨x, by rw [addK_zero, cell_blk hC.1]; rfl, some_w ?_⟩
    rw [addK_zero, i64w _ (by omega) (by omega)]
    refine hC.set (y := (x : Int) + 1) fun w1 hC1 cc1 => ?_
    obtain ⟨op, f, n, b, m, c, h0, h1, h2, h3, hv⟩ := ht
    obtain ⟨ks, rfl, hlen, _, hcm, hrng, hk⟩ := hv.parts
    have k0 : ∀ {w' : World}, Chg NoS w0 w' → w'.cell? (addK A 0) = some (.int .i8 op) := fun h => cell_keep h0 h
    have k1 : ∀ {w' : World}, Chg NoS w0 w' → w'.cell? (addK A 1) = some (.int .i8 f) := fun h => cell_keep h1 h
    have k2 : ∀ {w' : World}, Chg NoS w0 w' → w'.cell? (addK A 2) = some (.int .u64 n) := fun h => cell_keep h2 h
    have k3 : ∀ {w' : World}, Chg NoS w0 w' → w'.cell? (addK A 3) = some (.slice b m c) := fun h => cell_keep h3 h
    have hsz : tsize (.mk op f n ks) = lsize ks + 1 := by simp only [tsize]
    have hdp : tdepth (.mk op f n ks) = ldepth ks + 1 := by simp only [tdepth]
    have no : ∀ {w' : World} {y : Int}, Cn w0 w' kb y → Chg (OnlyB kb) w w' → ¬ okR pred deep x (.mk op f n ks) → (Value.bool false = .bool (decide (okR pred deep x (.mk op f n ks))) ∧ ∃ y : Int, Cn w0 w' kb y ∧ Chg (OnlyB kb) w w' ∧ (okR pred deep x (.mk op f n ks) → y = ((x + tsize (.mk op f n ks) : Nat) : Int))) := fun hC hc hn => ⟨by rw [decide_eq_false hn], _, hC, hc, fun h => absurd h hn⟩
    refine ⟨fun _ w2 => Cn w0 w2 kb ((x : Int) + 1) ∧ Chg (OnlyB kb) w w2 ∧ x + 1 ≤ 4096 ∧ deep ≤ 128 ∧ 0 ≤ op ∧ op ≤ 10 ∧ pred = decide (op < 6), ?_, ?_⟩
    · rintro _ w2 ⟨hC2, cc2, hx2, hd2, ho0, ho1, hpr⟩ _
      refine ⟨fun s w3 => Cn w0 w3 kb ((x : Int) + 1) ∧ Chg (OnlyB kb) w w3 ∧ s = ((loK op : Int), (hiK op : Int)) ∧ numK op f n = true, ?_, ?_⟩
      · rintro _ w3 ⟨hC3, cc3, rfl, hnum⟩ _
        refine ⟨fun _ w4 => Cn w0 w4 kb ((x : Int) + 1) ∧ Chg (OnlyB kb) w w4 ∧ loK op ≤ ks.length ∧ ks.length ≤ hiK op, ?_, ?_⟩
        · rintro _ w4 ⟨hC4, cc4, hlo, hhi⟩ _
          refine some_w ⟨_, _, _, k3 hC4.2.1, ?_⟩
          refine ⟨fun s w5 => ∃ j : Nat, s = (j : Int) ∧ j ≤ m ∧ Cn w0 w5 kb ((x + 1 + lsize (ks.take j) : Nat) : Int) ∧ Chg (OnlyB kb) w w5 ∧ shpL (pred || decide (op = 6)) (ks.take j) = true ∧ x + 1 + lsize (ks.take j) ≤ 4096 ∧ deep + 1 + ldepth (ks.take j) ≤ 129, fun s _ => (m - s).toNat, ⟨0, ⟨rfl, trivial⟩, 0, rfl, by omega, by simpa [lsize] using hC4, cc4, by simp [shpL], by simpa [lsize] using hx2, by simp [ldepth]; omega⟩, ?_⟩
          rintro s w5 ⟨j, rfl, hjm, hC5, cc5, hsh, hle, hdl⟩ _
          by_cases hlt : (j : Int) < m
          · rw [if_pos (by simpa using hlt)]
            have hj : j < ks.length := by omega
            have hst := lsize_take hj
            have hdt := ldepth_take hj
            have hCd := hC5.keep (chg_drew w5 NoS)
            have ccd := cc5.trans (chg_drew w5 _)
            obtain ⟨B, rfl, hB⟩ := hk j _ (List.getElem?_eq_getElem hj)
            have ed : IntKind.wrap .i64 ((deep : Int) + 1) = ((deep + 1 : Nat) : Int) := by rw [i64w _ (by omega) (by omega)]; rfl
            have go : Calls Tryz.prog 12 #[.pointer (some ⟨kb, 0, none⟩), .pointer (some (addK B (j * 4))), .bool (pred || decide (op = 6)), .int .i64 ((deep + 1 : Nat) : Int)] w5.drew (endW (fun v w' => ∃ b, v = .bool b ∧ if (!b) = true then (Value.bool false = .bool (decide (okR pred deep x (.mk op f n ks))) ∧ ∃ y : Int, Cn w0 w' kb y ∧ Chg (OnlyB kb) w w' ∧ (okR pred deep x (.mk op f n ks) → y = ((x + tsize (.mk op f n ks) : Nat) : Int))) else ∃ s' : Int, (Value.int .i64 s' = .int .i64 (IntKind.wrap .i64 ((j : Int) + 1)) ∧ True) ∧ (∃ j : Nat, s' = (j : Int) ∧ j ≤ m ∧ Cn w0 w' kb ((x + 1 + lsize (ks.take j) : Nat) : Int) ∧ Chg (OnlyB kb) w w' ∧ shpL (pred || decide (op = 6)) (ks.take j) = true ∧ x + 1 + lsize (ks.take j) ≤ 4096 ∧ deep + 1 + ldepth (ks.take j) ≤ 129) ∧ (m - s').toNat < (m - (j : Int)).toNat) (fun _ _ => False)) := by
              refine Calls.then (ih (tsize ks[j]) (by have := tsize_kid (op := op) (f := f) (n := n) (List.getElem_mem hj); omega) ks[j] rfl _ _ kb (x + 1 + lsize (ks.take j)) (deep + 1) _ hB hCd hle (by omega) (by omega)) ?_
              rintro v w6 ⟨rfl, y, hC6, cc6, hy⟩
              refine ⟨_, rfl, ?_⟩
              by_cases hr : okR (pred || decide (op = 6)) (deep + 1) (x + 1 + lsize (ks.take j)) ks[j]
              · rw [if_neg (by simp [hr])]
                have hy := hy hr
                obtain ⟨r1, r2, r3⟩ := hr
                refine ⟨((j + 1 : Nat) : Int), ⟨by rw [i64w _ (by omega) (by omega)]; rfl, trivial⟩, ⟨j + 1, rfl, by omega, ?_, ccd.trans cc6, by rw [shpL_take hj, hsh, r1]; rfl, by omega, by omega⟩, by omega⟩
                rw [hst, ← Nat.add_assoc, ← hy]
                exact hC6
              · rw [if_pos (by simp [hr])]
                exact no hC6 (ccd.trans cc6) fun hh => hr (okR_kid hh hj)
            refine some_w ?_
            cases hp : pred with
            | false =>
              rw [if_pos rfl]
              refine some_w ⟨_, _, _, k3 hCd.2.1, by omega, by omega, some_w ⟨_, k0 hCd.2.1, ?_⟩⟩
              rw [ed, Int.toNat_natCast]
              have eb : ((op == 6) : Bool) = (false || decide (op = 6)) := by rw [Bool.false_or]; rfl
              rw [eb]
              rw [hp] at go
              exact go
            | true =>
              rw [if_neg (by simp)]
              refine ⟨_, _, _, k3 hCd.2.1, by omega, by omega, some_w ?_⟩
              rw [ed, Int.toNat_natCast]
              rw [hp] at go
              exact go
          · rw [if_neg (by simpa using hlt)]
            rw [List.take_of_length_le (by omega)] at hC5 hsh hle hdl
            have hyes : okR pred deep x (.mk op f n ks) := by
              refine ⟨?_, by rw [hdp]; omega, by rw [hsz]; omega⟩
              simp only [shp, Bool.and_eq_true, decide_eq_true_eq]
              exact ⟨⟨⟨⟨⟨ho0, ho1⟩, by rw [hpr]; simp⟩, hnum⟩, hlo, hhi⟩, hsh⟩
            refine ⟨by rw [decide_eq_true hyes], _, hC5, cc5, fun _ => by rw [hsz]; omega⟩
        · refine some_w ⟨_, _, _, k3 hC3.2.1, ?_⟩
          by_cases hlo : loK op ≤ ks.length
          · rw [if_pos (by simp; omega)]
            refine some_w ⟨_, _, _, k3 hC3.2.1, ?_⟩
            by_cases hhi : ks.length ≤ hiK op
            · rw [if_neg (by simp; omega)]
              exact ⟨(), trivial, hC3, cc3, hlo, hhi⟩
            · rw [if_pos (by simp; omega)]
              refine no hC3 cc3 fun hh => hhi ?_
              have := hh.1
              simp only [shp, Bool.and_eq_true, decide_eq_true_eq] at this
              exact this.1.2.2
          · rw [if_neg (by simp; omega)]
            refine no hC3 cc3 fun hh => hlo ?_
            have := hh.1
            simp only [shp, Bool.and_eq_true, decide_eq_true_eq] at this
            exact this.1.2.1
      · refine some_w ⟨_, k0 hC2.2.1, ?_⟩
        have plainK : ¬ (op = 2 ∨ op = 7) → ∀ lo hi : Int, lo = (loK op : Int) → hi = (hiK op : Int) → ∃ s : Int × Int, (Value.int .i64 s.1 = .int .i64 lo ∧ Value.int .i64 s.2 = .int .i64 hi ∧ True) ∧ (Cn w0 w2 kb ((x : Int) + 1) ∧ Chg (OnlyB kb) w w2 ∧ s = ((loK op : Int), (hiK op : Int)) ∧ numK op f n = true) := fun hn lo hi e1 e2 => ⟨(lo, hi), ⟨rfl, rfl, trivial⟩, hC2, cc2, by rw [e1, e2], by unfold numK; rw [if_neg hn]⟩
        have hop : op = 0 ∨ op = 1 ∨ op = 2 ∨ op = 3 ∨ op = 4 ∨ op = 5 ∨ op = 6 ∨ op = 7 ∨ op = 8 ∨ op = 9 ∨ op = 10 := by omega
        have fits : op = 2 ∨ op = 7 → ∀ w', w' = w2 ∨ w' = w2.drew → (∃ s : Int × Int, True) → Calls Tryz.prog 30 #[.int .i8 f, .int .u64 n] w' (endW (fun v w' => ∃ b, v = .bool b ∧ if (!b) = true then (Value.bool false = .bool (decide (okR pred deep x (.mk op f n ks))) ∧ ∃ y : Int, Cn w0 w' kb y ∧ Chg (OnlyB kb) w w' ∧ (okR pred deep x (.mk op f n ks) → y = ((x + tsize (.mk op f n ks) : Nat) : Int))) else ∃ s : Int × Int, (Value.int .i64 s.1 = .int .i64 0 ∧ Value.int .i64 s.2 = .int .i64 0 ∧ True) ∧ (Cn w0 w' kb ((x : Int) + 1) ∧ Chg (OnlyB kb) w w' ∧ s = ((loK op : Int), (hiK op : Int)) ∧ numK op f n = true)) (fun _ _ => False)) := by
          intro ho w' hw' _
          have hc' : Chg NoS w2 w' := by
            rcases hw' with rfl | rfl
            · exact Chg.refl _ _
            · exact chg_drew _ _
          have en : n = ((n.toNat : Nat) : Int) := by omega
          have := H.Fits_ok w' f n.toNat
          rw [← en] at this
          refine Calls.then this ?_
          rintro v w6 ⟨rfl, c6⟩
          refine ⟨_, rfl, ?_⟩
          have hC6 := hC2.keep (hc'.trans c6)
          have cc6 : Chg (OnlyB kb) w w6 := cc2.trans ((hc'.trans c6).mono fun k hk e => e.elim)
          by_cases hf : H.fitsN f n.toNat = true
          · rw [if_neg (by simp [hf])]
            refine ⟨(0, 0), ⟨rfl, rfl, trivial⟩, hC6, cc6, ?_, by unfold numK; rw [if_pos ho]; exact hf⟩
            rcases ho with rfl | rfl <;> rfl
          · rw [if_pos (by simp at hf; simp [hf])]
            refine no hC6 cc6 fun hh => hf ?_
            have := hh.1
            simp only [shp, Bool.and_eq_true] at this
            have := this.1.1.2
            unfold numK at this
            rwa [if_pos ho] at this
        have D := hC2.keep (chg_drew w2 NoS)
        rcases hop with rfl | rfl | rfl | rfl | rfl | rfl | rfl | rfl | rfl | rfl | rfl
        all_goals repeat (first | rw [if_pos (show _ = true by decide)] | rw [if_neg (show ¬ _ = true by decide)])
        · exact plainK (by decide) _ _ rfl rfl
        · exact plainK (by decide) _ _ rfl rfl
        · exact some_w (some_w ⟨_, k1 D.2.1, _, k2 D.2.1, fits (.inl rfl) _ (.inr rfl) ⟨(0, 0), trivial⟩⟩)
        · exact plainK (by decide) _ _ rfl rfl
        · exact plainK (by decide) _ _ rfl rfl
        · exact plainK (by decide) _ _ rfl rfl
        · exact plainK (by decide) _ _ rfl rfl
        · exact some_w (some_w ⟨_, k1 D.2.1, _, k2 D.2.1, fits (.inr rfl) _ (.inr rfl) ⟨(0, 0), trivial⟩⟩)
        · exact plainK (by decide) _ _ rfl rfl
        · exact plainK (by decide) _ _ rfl rfl
        · exact plainK (by decide) _ _ rfl rfl
    · refine some_w ⟨_, by rw [addK_zero, cell_blk hC1.1]; rfl, ?_⟩
      by_cases hx : x + 1 ≤ 4096
      · rw [if_pos (by simp; omega)]
        by_cases hdd : deep > 128
        · rw [if_neg (by simp; omega)]
          exact no hC1 cc1 fun hh => by have := hh.2.1; rw [hdp] at this; omega
        · rw [if_pos (by simp; omega)]
          refine some_w ⟨_, k0 hC1.2.1, ?_⟩
          have shno : ¬ (0 ≤ op ∧ op ≤ 10 ∧ pred = decide (op < 6)) → ¬ okR pred deep x (.mk op f n ks) := fun hn hh => by
            have := hh.1
            simp only [shp, Bool.and_eq_true, decide_eq_true_eq, beq_iff_eq] at this
            exact hn ⟨this.1.1.1.1.1, this.1.1.1.1.2, this.1.1.1.2⟩
          by_cases a0 : op < 0
          · rw [if_neg (by simp; omega)]
            exact no hC1 cc1 (shno fun h => by omega)
          · rw [if_pos (by simp; omega)]
            refine some_w ⟨_, k0 hC1.2.1, ?_⟩
            by_cases a1 : op > 10
            · rw [if_neg (by simp; omega)]
              exact no hC1 cc1 (shno fun h => by omega)
            · rw [if_pos (by simp; omega)]
              refine some_w ⟨_, k0 hC1.2.1, ?_⟩
              by_cases a2 : pred = decide (op < 6)
              · rw [if_neg (by rw [a2]; simp)]
                exact ⟨(), trivial, hC1, cc1, hx, by omega, by omega, by omega, a2⟩
              · rw [if_pos (by cases pred <;> simp at a2 ⊢ <;> omega)]
                exact no hC1 cc1 (shno fun h => a2 h.2.2)
      · rw [if_neg (by simp; omega)]
        exact no hC1 cc1 fun hh => by have := hh.2.2; rw [hsz] at this; omega
end Go.Proofs.YtpolbdakhfcilaaGreatDoor.B

/-
  show: words are put into a row; a term's words.
-/
set_option maxRecDepth 100000
set_option linter.unusedVariables false
set_option linter.unusedSimpArgs false
namespace Go.Proofs.YtpolbdakhfcilaaGreatDoor.B
open Go Go.Proofs Go.Proofs.YtpolbdakhfcilaaGreatDoorEng Go.RowKit

abbrev Ws := List (List UInt8)
/-- how tightly a term's words hold -/
def strT (op : Int) : Nat := if op = 5 ∨ op = 8 then 0 else if op = 4 ∨ op = 9 then 1 else if op = 1 ∨ op = 0 ∨ op = 2 then 3 else 2
def brW (b : Bool) (l : Ws) : Ws := if b then [40] :: (l ++ [[41]]) else l
def lst (op : Int) : Nat := if op = 5 ∨ op = 8 then 1 else if op = 3 ∨ op = 4 ∨ op = 9 then 2 else 0
def sgn (op : Int) : List UInt8 := if op = 4 then [38] else if op = 5 then [124] else if op = 9 then [59] else if op = 8 then [43] else []
def preW (op : Int) : Ws := if op = 3 then [[33]] else if op = 10 then [[40]] else if op = 6 then [[102, 105, 108, 116, 101, 114]] else []
def postW (op : Int) : Ws := if op = 10 then [[41], [42]] else []
def first (ks : List Tm) : Int := match ks with
  | k :: _ => opS k
  | [] => -1
def leafW (op f n : Int) : Ws := if op = 1 then [[116, 114, 117, 101]] else if op = 0 then [[102, 97, 108, 115, 101]] else if op = 2 then [H.nam f.toNat, [61], H.numTxt f.toNat n.toNat] else [H.nam f.toNat, [58, 61], H.numTxt f.toNat n.toNat]
mutual
def wdT : Tm → Ws
  | .mk op f n ks => if op = 0 ∨ op = 1 ∨ op = 2 ∨ op = 7 then leafW op f n else if op = 6 ∧ first ks = 1 then [[105, 100]] else if op = 6 ∧ first ks = 0 then [[100, 114, 111, 112]] else preW op ++ rowW (lst op) (sgn op) ks ++ postW op
def rowW (l : Nat) (sg : List UInt8) : List Tm → Ws
  | [] => []
  | k :: ks => brW (decide (strT (opS k) < l)) (wdT k) ++ tlW l sg ks
def tlW (l : Nat) (sg : List UInt8) : List Tm → Ws
  | [] => []
  | k :: ks => sg :: (brW (decide (strT (opS k) < l)) (wdT k) ++ tlW l sg ks)
end
def atW (l : Nat) (k : Tm) : Ws := brW (decide (strT (opS k) < l)) (wdT k)
theorem tlW_app (l : Nat) (sg : List UInt8) : ∀ a b : List Tm, tlW l sg (a ++ b) = tlW l sg a ++ tlW l sg b
  | [], b => by simp [tlW]
  | x :: a, b => by simp only [List.cons_append, tlW, tlW_app l sg a b, List.append_assoc]
theorem rowW_take {l : Nat} {sg : List UInt8} {ks : List Tm} {j : Nat} (hj : j < ks.length) : rowW l sg (ks.take (j + 1)) = rowW l sg (ks.take j) ++ ((if j = 0 then [] else [sg]) ++ atW l ks[j]) := by
  cases ks with
  | nil => simp at hj
  | cons k ks =>
    cases j with
    | zero => simp [rowW, tlW, atW]
    | succ j =>
      have hj' : j < ks.length := by simpa using hj
      rw [List.take_succ_cons, List.take_succ_cons, rowW, rowW, List.take_add_one, List.getElem?_eq_getElem hj', tlW_app]
      simp [tlW, atW]
theorem brW_len (b : Bool) (l : Ws) : (brW b l).length ≤ l.length + 2 := by
  unfold brW
  split <;> simp
mutual
theorem wlen : ∀ t : Tm, (wdT t).length + 3 ≤ 6 * tsize t
  | .mk op f n ks => by
    have h := rlen (lst op) (sgn op) ks
    simp only [wdT, tsize]
    split
    · unfold leafW
      split
      · simp; omega
      · split
        · simp; omega
        · split <;> simp <;> omega
    · split
      · simp; omega
      · split
        · simp; omega
        · have h1 : (preW op).length + (postW op).length ≤ 3 := by
            unfold preW postW
            split
            · rename_i e; simp [e]
            · split
              · simp
              · split <;> simp
          simp only [List.length_append]
          omega
theorem rlen (l : Nat) (sg : List UInt8) : ∀ ks : List Tm, (rowW l sg ks).length ≤ 6 * lsize ks
  | [] => by simp [rowW]
  | k :: ks => by
    have h1 := wlen k
    have h2 := tllen l sg ks
    have h3 := brW_len (decide (strT (opS k) < l)) (wdT k)
    simp only [rowW, List.length_append, lsize]
    omega
theorem tllen (l : Nat) (sg : List UInt8) : ∀ ks : List Tm, (tlW l sg ks).length ≤ 6 * lsize ks
  | [] => by simp [tlW]
  | k :: ks => by
    have h1 := wlen k
    have h2 := tllen l sg ks
    have h3 := brW_len (decide (strT (opS k) < l)) (wdT k)
    simp only [tlW, List.length_append, List.length_cons, lsize]
    omega
end
/-! ### the row in memory -/
def OwnL (w : World) (lb b : Nat) : Prop := b = lb ∨ ∃ a n c, w.heap[lb]? = some (.cells #[.slice a n c] 49 (0, 0)) ∧ (Value.slice a n c).ownBlock = some b
def Step (w w' : World) (lb : Nat) : Prop := Chg (OwnL w lb) w w' ∧ ∀ b, OwnL w' lb b → OwnL w lb b ∨ w.heap.size ≤ b
theorem Step.trans {a b c : World} {lb : Nat} (h : Step a b lb) (k : Step b c lb) : Step a c lb :=
  ⟨h.1.trans2 k.1 fun i hi hb => by
    rcases h.2 i hb with h' | h'
    · exact h'
    · omega, fun i hi => by
    rcases k.2 i hi with h' | h'
    · exact h.2 i h'
    · exact .inr (by have := h.1.size; omega)⟩
theorem Step.same {w w' : World} {lb : Nat} (hl : lb < w.heap.size) (hc : Chg NoS w w') : Step w w' lb :=
  ⟨hc.mono fun _ _ e => e.elim, fun b hb => by
    rcases hb with hb | ⟨a, n, c, h1, h2⟩
    · exact .inl (.inl hb)
    · exact .inl (.inr ⟨a, n, c, by rw [← hc.block lb hl fun x => x]; exact h1, h2⟩)⟩
structure Wr (w0 w : World) (wb lb : Nat) (l : Ws) : Prop where
  old : Chg NoS w0 w
  lo : w0.heap.size ≤ lb
  lt : lb < wb
  wr : w.heap[wb]? = some (.cells #[.func (.func 14) #[] #[.pointer (some ⟨lb, 0, none⟩)]] 53 (0, 0))
  row : ∃ a n c, w.heap[lb]? = some (.cells #[.slice a n c] 49 (0, 0)) ∧ w.ownsRow (wb + 1) 9 1 (.slice a n c) n (H.strs l)
theorem Wr.keep {w0 w w' : World} {wb lb : Nat} {l : Ws} (h : Wr w0 w wb lb l) (hc : Chg NoS w w') : Wr w0 w' wb lb l := by
  obtain ⟨a, n, c, h1, h2⟩ := h.row
  exact ⟨h.old.trans hc, h.lo, h.lt, hc.blk h.wr fun x => x, a, n, c, hc.blk h1 fun x => x, own_of_chg h2 hc fun _ _ x => x⟩
theorem Wr.inl {w0 w : World} {wb lb : Nat} {l : Ws} (h : Wr w0 w wb lb l) : lb < w.heap.size := by
  obtain ⟨a, n, c, h1, _⟩ := h.row
  exact lt_of_blk h1
def Put (w0 w : World) (wb lb : Nat) (l : Ws) (v : Value) (w' : World) : Prop := v = .tuple #[] ∧ Wr w0 w' wb lb l ∧ Step w w' lb
theorem putw_ok {w0 w : World} {wb lb : Nat} {l news : Ws} {a : Option Addr} {m c : Nat} (h : Wr w0 w wb lb l) (hm : news.length = m) (hr : Reads w a (H.strs news)) (h0 : a = none → m = 0) (hb : l.length + m ≤ 2000000) :
    Calls Tryz.prog 14 #[.slice a m c, .pointer (some ⟨lb, 0, none⟩)] w (endW (Put w0 w wb lb (l ++ news)) (fun _ _ => False)) := by
  obtain ⟨a1, n1, c1, hl1, ho⟩ := h.row
  have hn : l.length = n1 := by have := ho.1; rw [H.strs_length] at this; omega
  refine F14_calls _ _ _ (some ⟨lb, 0, none⟩) ?_
  delta F14
  refine some_w ⟨a1, n1, c1, by rw [cell_blk hl1]; rfl, ?_⟩
  refine row_append (z := .string ⟨#[]⟩) (size := 1) (bytes := 16) (base := wb + 1) (news := H.strs news) Tryz.underlying49 Tryz.underlying49 H.info9 rfl ho (by rw [H.strs_length]; omega) hr h0 (fun u hu => by obtain ⟨x, _, rfl⟩ := List.mem_map.1 hu; rfl) (by omega) (by omega) (by have := lt_of_blk h.wr; omega) ?_
  intro a' c' w' ho' hc' hb'
  refine ⟨_, _, _, rfl, some_w ?_⟩
  have hlt := h.lt
  have nlb : ¬ (Value.slice a1 n1 c1).ownBlock = some lb := fun e => by have := (own_lt' ho e).2; omega
  have nwb : ¬ (Value.slice a1 n1 c1).ownBlock = some wb := fun e => by have := (own_lt' ho e).2; omega
  have hl2 := hc'.blk hl1 nlb
  refine (setW_blk (i := 0) (v := .slice a' (n1 + m) c') hl2 (by simp) rfl fun w2 b2 c2 z2 => ?_ : setW _ _ _ _)
  have nb2 : ∀ k, (Value.slice a' (n1 + m) c').ownBlock = some k → wb + 1 ≤ k := fun k e => (own_lt' ho' e).2
  have hold : Chg NoS w0 w2 := (h.old.trans2 hc' fun k hk e => by have := (own_lt' ho e).2; have := h.lo; omega).trans2 c2 fun k hk e => by have : k = lb := e; have := h.lo; omega
  have cch : Chg (OwnL w lb) w w2 := (hc'.mono fun k _ e => .inr ⟨a1, n1, c1, hl1, e⟩).trans2 c2 fun k _ e => .inl e
  refine ⟨rfl, ⟨hold, h.lo, h.lt, c2.blk (hc'.blk h.wr nwb) (by show ¬ wb = lb; omega), a', n1 + m, c', by simpa using b2, ?_⟩, cch, fun b hb2 => ?_⟩
  · rw [H.strs_append]
    exact own_of_chg ho' c2 fun k e x => by have : k = lb := x; have := nb2 k e; omega
  · rcases hb2 with e | ⟨a3, n3, c3, h3, h4⟩
    · exact .inl (.inl e)
    · have e3 : w2.heap[lb]? = some (.cells #[.slice a' (n1 + m) c'] 49 (0, 0)) := by simpa using b2
      rw [e3] at h3
      simp only [Option.some.injEq, Obj.cells.injEq] at h3
      have h3' := h3.1
      simp at h3'
      obtain ⟨rfl, rfl, rfl⟩ := h3'
      rcases hb' b h4 with h5 | h5
      · exact .inl (.inr ⟨a1, n1, c1, hl1, h5⟩)
      · exact .inr h5
theorem put_lit {w0 w : World} {wb lb : Nat} {l news : Ws} {m : Nat} {cs : Array Value} (h : Wr w0 w wb lb l) (hcs : cs.toList = H.strs news) (hm : news.length = m) (hb : l.length + m ≤ 2000000) :
    Calls Tryz.prog 14 #[.slice (some ⟨w.heap.size, 0, none⟩) m m, .pointer (some ⟨lb, 0, none⟩)] (w.alloc (.cells cs 9)) (endW (Put w0 w wb lb (l ++ news)) (fun _ _ => False)) := by
  have hc := chg_alloc w (.cells cs 9) NoS
  refine Calls.then (putw_ok (h.keep hc) hm (by rw [← hcs]; exact reads_lit (blk_alloc w _)) (fun e => by cases e) hb) ?_
  rintro v w' ⟨rfl, h1, h2⟩
  exact ⟨rfl, h1, (Step.same h.inl hc).trans h2⟩
theorem ops {p : Bool} {op f n : Int} {ks : List Tm} (h : shp p (.mk op f n ks) = true) : (op = 0 ∨ op = 1 ∨ op = 2 ∨ op = 3 ∨ op = 4 ∨ op = 5 ∨ op = 6 ∨ op = 7 ∨ op = 8 ∨ op = 9 ∨ op = 10) ∧ numK op f n = true ∧ (loK op ≤ ks.length ∧ ks.length ≤ hiK op) ∧ shpL (p || decide (op = 6)) ks = true := by
  simp only [shp, Bool.and_eq_true, decide_eq_true_eq] at h
  obtain ⟨⟨⟨⟨⟨h0, h1⟩, _⟩, h2⟩, h3⟩, h4⟩ := h
  exact ⟨by omega, h2, h3, h4⟩
theorem strength_ok (w : World) {op : Int} (hop : op = 0 ∨ op = 1 ∨ op = 2 ∨ op = 3 ∨ op = 4 ∨ op = 5 ∨ op = 6 ∨ op = 7 ∨ op = 8 ∨ op = 9 ∨ op = 10) : Calls Tryz.prog 57 #[.int .i8 op] w (endW (fun v w' => v = .int .i64 (strT op : Nat) ∧ w' = w) (fun _ _ => False)) := by
  refine F57_calls _ ?_
  delta F57
  rcases hop with rfl | rfl | rfl | rfl | rfl | rfl | rfl | rfl | rfl | rfl | rfl
  all_goals repeat (first | rw [if_pos (show _ = true by decide)] | rw [if_neg (show ¬ _ = true by decide)])
  all_goals exact ⟨rfl, rfl⟩
/-- a term is told -/
def TermP (w0 : World) (k : Tm) : Prop := ∀ (A : Addr) (w : World) (wb lb : Nat) (l : Ws), TmP w0 k A → Wr w0 w wb lb l → l.length + (wdT k).length ≤ 1000000 → Calls Tryz.prog 16 #[.pointer (some ⟨wb, 0, none⟩), .pointer (some A)] w (endW (Put w0 w wb lb (l ++ wdT k)) (fun _ _ => False))
def AtP (w0 : World) (k : Tm) : Prop := ∀ (A : Addr) (w : World) (wb lb : Nat) (l : Ws) (least : Nat), TmP w0 k A → Wr w0 w wb lb l → l.length + (atW least k).length ≤ 1000000 → Calls Tryz.prog 34 #[.pointer (some ⟨wb, 0, none⟩), .pointer (some A), .int .i64 (least : Int)] w (endW (Put w0 w wb lb (l ++ atW least k)) (fun _ _ => False))
theorem Put.next {w0 w w1 : World} {wb lb : Nat} {l l2 : Ws} {v : Value} (h : Put w0 w wb lb l v w1) {v2 : Value} {w2 : World} (k : Put w0 w1 wb lb l2 v2 w2) : Put w0 w wb lb l2 (.tuple #[]) w2 := ⟨rfl, k.2.1, h.2.2.trans k.2.2⟩
theorem Wr.fn {w0 w : World} {wb lb : Nat} {l : Ws} (h : Wr w0 w wb lb l) : w.cell? (addK ⟨wb, 0, none⟩ 0) = some (.func (.func 14) #[] #[.pointer (some ⟨lb, 0, none⟩)]) := by rw [addK_zero, cell_blk h.wr]; rfl
theorem at_ok {w0 : World} {k : Tm} {p : Bool} (hk : shp p k = true) (hP : TermP w0 k) : AtP w0 k := by
  intro A w wb lb l least ht hw hb
  refine F34_calls (some ⟨wb, 0, none⟩) (some A) _ ?_
  delta F34
  obtain ⟨op, f, n, b, m, c, h0, h1, h2, h3, hv⟩ := ht
  obtain ⟨ks, rfl, _⟩ := hv.parts
  have ht : TmP w0 (.mk op f n ks) A := ⟨op, f, n, b, m, c, h0, h1, h2, h3, hv⟩
  refine some_w ⟨_, cell_keep h0 hw.old, ?_⟩
  refine Calls.then (strength_ok w (ops hk).1) ?_
  rintro v w1 ⟨rfl, rfl⟩
  refine ⟨_, rfl, ?_⟩
  by_cases hs : strT op < least
  · have ea : atW least (.mk op f n ks) = [40] :: (wdT (.mk op f n ks) ++ [[41]]) := by
      unfold atW brW
      rw [if_pos (by simp [opS, hs])]
    rw [ea] at hb ⊢
    simp only [List.length_cons, List.length_append, List.length_nil] at hb
    rw [if_neg (by simp; omega)]
    refine some_w ⟨_, hw.fn, ?_⟩
    refine Calls.then (put_lit (news := [[40]]) hw rfl rfl (by omega)) ?_
    intro v w2 p2
    refine Calls.then (hP A w2 wb lb (l ++ [[40]]) ht p2.2.1 (by simp; omega)) ?_
    intro v w3 p3
    refine some_w ⟨_, p3.2.1.fn, ?_⟩
    refine Calls.then (put_lit (news := [[41]]) p3.2.1 rfl rfl (by simp; omega)) ?_
    intro v w4 p4
    have := (p2.next p3).next p4
    have e : l ++ [[40]] ++ wdT (.mk op f n ks) ++ [[41]] = l ++ [40] :: (wdT (.mk op f n ks) ++ [[41]]) := by simp
    rw [e] at this
    exact this
  · have ea : atW least (.mk op f n ks) = wdT (.mk op f n ks) := by
      unfold atW brW
      rw [if_neg (by simp [opS, hs])]
    rw [ea] at hb ⊢
    rw [if_pos (by simp; omega)]
    refine Calls.then (hP A w1 wb lb l ht hw hb) ?_
    intro v w2 p2
    exact ⟨rfl, p2.2⟩
theorem rowW_mono {l : Nat} {sg : List UInt8} {ks : List Tm} : ∀ (d j : Nat), j + d = ks.length → (rowW l sg (ks.take j)).length ≤ (rowW l sg ks).length
  | 0, j, h => by rw [List.take_of_length_le (by omega)]; exact Nat.le_refl _
  | d + 1, j, h => by
    have h1 := rowW_mono (l := l) (sg := sg) (ks := ks) d (j + 1) (by omega)
    rw [rowW_take (show j < ks.length by omega), List.length_append] at h1
    omega
theorem kids_ok {w0 : World} {op f n : Int} {ks : List Tm} (hks : ∀ k ∈ ks, AtP w0 k) (A : Addr) (w : World) (wb lb : Nat) (l : Ws) (least : Nat) (sg : List UInt8) (ht : TmP w0 (.mk op f n ks) A) (hw : Wr w0 w wb lb l) (hb : l.length + (rowW least sg ks).length ≤ 1000000) (hm : ks.length ≤ 4096) :
    Calls Tryz.prog 35 #[.pointer (some ⟨wb, 0, none⟩), .pointer (some A), .int .i64 (least : Int), .string (bs sg)] w (endW (Put w0 w wb lb (l ++ rowW least sg ks)) (fun _ _ => False)) := by
  refine F35_calls (some ⟨wb, 0, none⟩) (some A) _ _ ?_
  delta F35
  obtain ⟨op', f', n', b, m, c, h0, h1, h2, h3, hv⟩ := ht
  obtain ⟨ks', e', hlen, _, hcm, _, hk⟩ := hv.parts
  injection e' with _ _ _ e'
  subst e'
  refine some_w ⟨_, _, _, cell_keep h3 hw.old, ?_⟩
  refine ⟨fun s w1 => ∃ j : Nat, s = (j : Int) ∧ j ≤ m ∧ Wr w0 w1 wb lb (l ++ rowW least sg (ks.take j)) ∧ Step w w1 lb, fun s _ => (m - s).toNat, ⟨0, ⟨rfl, trivial⟩, 0, rfl, by omega, by simpa [rowW] using hw, Step.same hw.inl (Chg.refl NoS w)⟩, ?_⟩
  rintro s w1 ⟨j, rfl, hjm, hw1, st1⟩ _
  by_cases hlt : (j : Int) < m
  · rw [if_pos (by simpa using hlt)]
    have hj : j < ks.length := by omega
    obtain ⟨B, rfl, hB⟩ := hk j _ (List.getElem?_eq_getElem hj)
    have htk := rowW_take (l := least) (sg := sg) hj
    have hmo := rowW_mono (l := least) (sg := sg) (ks := ks) (ks.length - (j + 1)) (j + 1) (by omega)
    rw [htk, List.length_append, List.length_append] at hmo
    have nx : ∀ {w2 : World}, Wr w0 w2 wb lb (l ++ rowW least sg (ks.take (j + 1))) → Step w w2 lb → ∃ s' : Int, (Value.int .i64 s' = .int .i64 (IntKind.wrap .i64 ((j : Int) + 1)) ∧ True) ∧ (∃ j : Nat, s' = (j : Int) ∧ j ≤ m ∧ Wr w0 w2 wb lb (l ++ rowW least sg (ks.take j)) ∧ Step w w2 lb) ∧ (m - s').toNat < (m - (j : Int)).toNat := fun hw2 st2 => ⟨((j + 1 : Nat) : Int), ⟨by rw [i64w _ (by omega) (by omega)]; rfl, trivial⟩, ⟨j + 1, rfl, by omega, hw2, st2⟩, by omega⟩
    by_cases h0j : j = 0
    · subst h0j
      rw [if_neg (by simp)]
      refine some_w ⟨_, _, _, cell_keep h3 hw1.old, by omega, by omega, some_w ?_⟩
      rw [Int.toNat_natCast]
      refine Calls.then (hks _ (List.getElem_mem hj) _ w1 wb lb _ least hB hw1 (by simp [rowW] at hmo ⊢; omega)) ?_
      intro v w2 p2
      refine nx ?_ (st1.trans p2.2.2)
      rw [htk]
      have := p2.2.1
      rw [List.append_assoc] at this
      simpa using this
    · rw [if_pos (by simp; omega)]
      rw [if_neg h0j] at htk hmo
      simp only [List.length_singleton] at hmo
      refine some_w ⟨_, hw1.fn, ?_⟩
      refine Calls.then (put_lit (news := [sg]) hw1 rfl rfl (by rw [List.length_append]; omega)) ?_
      intro v w2 p2
      refine some_w ⟨_, _, _, cell_keep h3 p2.2.1.old, by omega, by omega, some_w ?_⟩
      rw [Int.toNat_natCast]
      refine Calls.then (hks _ (List.getElem_mem hj) _ w2 wb lb _ least hB p2.2.1 (by simp only [List.length_append, List.length_singleton]; omega)) ?_
      intro v w3 p3
      refine nx ?_ (st1.trans (p2.2.2.trans p3.2.2))
      rw [htk]
      have := p3.2.1
      simpa [List.append_assoc] using this
  · rw [if_neg (by simpa using hlt)]
    rw [List.take_of_length_le (by omega)] at hw1
    exact ⟨rfl, hw1, st1⟩
end Go.Proofs.YtpolbdakhfcilaaGreatDoor.B

/-
  show: a term's words, walked.
-/
set_option maxRecDepth 100000
set_option linter.unusedVariables false
set_option linter.unusedSimpArgs false
namespace Go.Proofs.YtpolbdakhfcilaaGreatDoor.B
open Go Go.Proofs Go.Proofs.YtpolbdakhfcilaaGreatDoorEng Go.RowKit

theorem names_at (k : Nat) (hk : k < 11) : (Option.rec undef (fun (val : Value) => val) ((H.strs H.names).toArray.toList)[k]? : Value) = .string (bs (H.nam k)) := by
  have := H.nam_get k hk
  rw [List.toList_toArray, this]
theorem fits_rng {f n : Int} (h : H.fitsN f n.toNat = true) (hn : 0 ≤ n) (hn2 : n ≤ 18446744073709551615) : ∃ fk nk : Nat, f = (fk : Int) ∧ n = (nk : Int) ∧ fk < 11 ∧ nk < 18446744073709551616 := by
  unfold H.fitsN at h
  have h1 := (of_decide_eq_true h).1
  unfold H.widI at h1
  split at h1
  · rename_i hf
    exact ⟨f.toNat, n.toNat, by omega, by omega, by omega, by omega⟩
  · omega
theorem term_ok {w0 : World} (hT : H.Tab w0) : ∀ (t : Tm) (p : Bool), shp p t = true → tsize t ≤ 4096 → TermP w0 t := by
  intro t
  generalize hs : tsize t = sz
  induction sz using Nat.strongRecOn generalizing t with
  | _ sz ih =>
    intro p hsh hsz A w wb lb l ht hw hb
    subst hs
    obtain ⟨op, f, n, b, m, c, h0, h1, h2, h3, hv⟩ := ht
    obtain ⟨ks, rfl, hlen, _, hcm, hrng, hk⟩ := hv.parts
    have ht : TmP w0 (.mk op f n ks) A := ⟨op, f, n, b, m, c, h0, h1, h2, h3, hv⟩
    obtain ⟨hop, hnum, hcnt, hkids⟩ := ops hsh
    have kidP : ∀ k ∈ ks, TermP w0 k := fun k hk' => by
      obtain ⟨j, hj, rfl⟩ := List.mem_iff_getElem.1 hk'
      have hlt := tsize_kid (op := op) (f := f) (n := n) (List.getElem_mem hj)
      exact ih (tsize ks[j]) hlt ks[j] rfl _ (shpL_get hj hkids) (by omega)
    have kidA : ∀ k ∈ ks, AtP w0 k := fun k hk' => by
      obtain ⟨j, hj, rfl⟩ := List.mem_iff_getElem.1 hk'
      exact at_ok (shpL_get hj hkids) (kidP _ hk')
    have hm : ks.length ≤ 4096 := by
      have : hiK op ≤ 4096 := by unfold hiK; split <;> (try split) <;> omega
      omega
    refine F16_calls (some ⟨wb, 0, none⟩) (some A) ?_
    delta F16
    refine some_w ⟨_, cell_keep h0 hw.old, ?_⟩
    have done : ∀ {v : Value} {w' : World} {l' : Ws}, Put w0 w wb lb l' v w' → Put w0 w wb lb l' (.tuple #[]) w' := fun h => ⟨rfl, h.2⟩
    have lit : ∀ (news : Ws) (m : Nat) (cs : Array Value), cs.toList = H.strs news → news.length = m → wdT (.mk op f n ks) = news → Calls Tryz.prog 14 #[.slice (some ⟨w.heap.size, 0, none⟩) m m, .pointer (some ⟨lb, 0, none⟩)] (w.alloc (.cells cs 9)) (endW (fun v w' => Put w0 w wb lb (l ++ wdT (.mk op f n ks)) (.tuple #[]) w') (fun _ _ => False)) := fun news m cs h1 h2 h3 => by
      rw [h3] at hb ⊢
      exact Calls.then (put_lit hw h1 h2 (by omega)) fun v w' h => done h
    have kids : ∀ (least : Nat) (sg : List UInt8), wdT (.mk op f n ks) = rowW least sg ks → Calls Tryz.prog 35 #[.pointer (some ⟨wb, 0, none⟩), .pointer (some A), .int .i64 (least : Int), .string (bs sg)] w (endW (fun v w' => Put w0 w wb lb (l ++ wdT (.mk op f n ks)) (.tuple #[]) w') (fun _ _ => False)) := fun least sg h3 => by
      rw [h3] at hb ⊢
      exact Calls.then (kids_ok kidA A w wb lb l least sg ht hw hb hm) fun v w' h => done h
    have pairR : op = 2 ∨ op = 7 → ∀ (sg : List UInt8), wdT (.mk op f n ks) = [H.nam f.toNat, sg, H.numTxt f.toNat n.toNat] → ∃ fk nk : Nat, f = (fk : Int) ∧ n = (nk : Int) ∧ fk < 11 ∧ nk < 18446744073709551616 := fun ho sg _ => by
      unfold numK at hnum
      rw [if_pos ho] at hnum
      exact fits_rng hnum hrng.2.2.2.2.1 hrng.2.2.2.2.2
    have one : ∀ k0, ks = [k0] → ∃ B, b = some B ∧ TmP w0 k0 (addK B 0) := fun k0 e => by
      obtain ⟨B, e1, h⟩ := hk 0 k0 (by rw [e]; rfl)
      exact ⟨B, e1, by simpa using h⟩
    have single : loK op = 1 → hiK op = 1 → ∃ k0, ks = [k0] := fun e1 e2 => by
      rw [e1, e2] at hcnt
      exact List.length_eq_one_iff.1 (by omega)
    rcases hop with rfl | rfl | rfl | rfl | rfl | rfl | rfl | rfl | rfl | rfl | rfl
    all_goals repeat (first | rw [if_pos (show _ = true by decide)] | rw [if_neg (show ¬ _ = true by decide)])
    · exact some_w ⟨_, hw.fn, lit [[102, 97, 108, 115, 101]] 1 _ rfl rfl (by simp [wdT, leafW])⟩
    · exact some_w ⟨_, hw.fn, lit [[116, 114, 117, 101]] 1 _ rfl rfl (by simp [wdT, leafW])⟩
    · have hwd : wdT (.mk 2 f n ks) = [H.nam f.toNat, [61], H.numTxt f.toNat n.toNat] := by simp [wdT, leafW]
      obtain ⟨fk, nk, rfl, rfl, hf, hn⟩ := pairR (.inl rfl) _ hwd
      refine ⟨NoS, some_w (some_w (some_w (some_w ⟨fun x => x, _, (hw.keep (chg_drew w NoS)).fn, fun x => x, _, cell_keep h1 (hw.old.trans (chg_drew _ _)), fun x => x, _, cell_keep h1 (hw.old.trans (chg_drew _ _)), fun x => x, _, cell_keep h2 (hw.old.trans (chg_drew _ _)), ?_⟩)))⟩
      refine Calls.then (H.Names_ok w.drew) ?_
      rintro v w2 ⟨rfl, c2⟩
      have c02 := hw.old.trans ((chg_drew w NoS).trans c2)
      refine ⟨_, rfl, _, _, rfl, _, rfl, _, _, rfl, _, rfl, _, _, rfl, _, rfl, _, _, rfl, _, rfl, _, _, rfl, _, rfl, _, _, rfl, _, rfl, _, _, rfl, _, rfl, _, _, rfl, _, rfl, _, _, rfl, _, rfl, _, _, rfl, _, rfl, _, _, rfl, _, rfl, rfl, ?_⟩
      refine ⟨kept_of_ c2, by omega, by omega, by simp; omega, _, names_at fk hf, ?_⟩
      refine Calls.then (H.Number_ok w2 fk nk hf hn (hT.chg c02)) ?_
      rintro v w3 ⟨rfl, c3⟩
      refine ⟨_, rfl, ?_⟩
      have hw3 := hw.keep (((chg_drew w NoS).trans c2).trans c3)
      rw [hwd] at hb ⊢
      simp only [List.length_cons, List.length_nil] at hb
      refine ⟨kept_of_ (c2.trans c3), kept_of_ ((c2.trans c3).trans (chg_alloc _ _ _)), ?_⟩
      refine Calls.then (put_lit (news := [H.nam fk, [61], H.numTxt fk nk]) hw3 rfl rfl (by omega)) ?_
      intro v w4 p4
      exact ⟨rfl, p4.2.1, (Step.same hw.inl (((chg_drew w NoS).trans c2).trans c3)).trans p4.2.2⟩
    · obtain ⟨k0, rfl⟩ := single rfl rfl
      obtain ⟨B, rfl, hB⟩ := one k0 rfl
      have hwd : wdT (.mk 3 f n [k0]) = [33] :: atW 2 k0 := by simp [wdT, preW, postW, rowW, tlW, lst, atW]
      rw [hwd] at hb ⊢
      simp only [List.length_cons] at hb
      refine some_w ⟨_, hw.fn, ?_⟩
      refine Calls.then (put_lit (news := [[33]]) hw rfl rfl (by omega)) ?_
      intro v w2 p2
      refine some_w ⟨_, _, _, cell_keep h3 p2.2.1.old, by omega, by have : m = 1 := hlen; omega, some_w ?_⟩
      refine Calls.then (kidA k0 (by simp) _ w2 wb lb _ 2 hB p2.2.1 (by simp; omega)) ?_
      intro v w3 p3
      have := p2.next p3
      simpa using this
    · exact kids 2 [38] (by simp [wdT, preW, postW, lst, sgn])
    · exact kids 1 [124] (by simp [wdT, preW, postW, lst, sgn])
    · obtain ⟨k0, rfl⟩ := single rfl rfl
      obtain ⟨B, rfl, hB⟩ := one k0 rfl
      have hB' := hB
      obtain ⟨op1, f1, n1, b1, m1, d1, y0, y1, y2, y3, y4⟩ := hB'
      obtain ⟨ks1, rfl, _⟩ := y4.parts
      refine some_w ⟨_, _, _, cell_keep h3 hw.old, by omega, by have : m = 1 := hlen; omega, some_w ⟨_, cell_keep y0 hw.old, ?_⟩⟩
      by_cases e1 : op1 = 1
      · subst e1
        rw [if_pos (by rfl)]
        exact some_w ⟨_, hw.fn, lit [[105, 100]] 1 _ rfl rfl (by simp [wdT, first, opS])⟩
      · rw [if_neg (by simp [e1])]
        by_cases e0 : op1 = 0
        · subst e0
          rw [if_pos (by rfl)]
          exact some_w ⟨_, hw.fn, lit [[100, 114, 111, 112]] 1 _ rfl rfl (by simp [wdT, first, opS])⟩
        · rw [if_neg (by simp [e0])]
          have hwd : wdT (.mk 6 f n [.mk op1 f1 n1 ks1]) = [102, 105, 108, 116, 101, 114] :: wdT (.mk op1 f1 n1 ks1) := by
            rw [wdT, if_neg (by decide), if_neg (by simp [first, opS, e1]), if_neg (by simp [first, opS, e0])]
            simp [preW, postW, rowW, tlW, lst, brW]
          rw [hwd] at hb ⊢
          simp only [List.length_cons] at hb
          refine some_w ⟨_, hw.fn, ?_⟩
          refine Calls.then (put_lit (news := [[102, 105, 108, 116, 101, 114]]) hw rfl rfl (by omega)) ?_
          intro v w2 p2
          refine some_w ⟨_, _, _, cell_keep h3 p2.2.1.old, by omega, by have : m = 1 := hlen; omega, some_w ?_⟩
          refine Calls.then (kidP _ (by simp) _ w2 wb lb _ hB p2.2.1 (by simp; omega)) ?_
          intro v w3 p3
          have := p2.next p3
          simpa using this
    · have hwd : wdT (.mk 7 f n ks) = [H.nam f.toNat, [58, 61], H.numTxt f.toNat n.toNat] := by simp [wdT, leafW]
      obtain ⟨fk, nk, rfl, rfl, hf, hn⟩ := pairR (.inr rfl) _ hwd
      refine ⟨NoS, some_w (some_w (some_w (some_w ⟨fun x => x, _, (hw.keep (chg_drew w NoS)).fn, fun x => x, _, cell_keep h1 (hw.old.trans (chg_drew _ _)), fun x => x, _, cell_keep h1 (hw.old.trans (chg_drew _ _)), fun x => x, _, cell_keep h2 (hw.old.trans (chg_drew _ _)), ?_⟩)))⟩
      refine Calls.then (H.Names_ok w.drew) ?_
      rintro v w2 ⟨rfl, c2⟩
      have c02 := hw.old.trans ((chg_drew w NoS).trans c2)
      refine ⟨_, rfl, _, _, rfl, _, rfl, _, _, rfl, _, rfl, _, _, rfl, _, rfl, _, _, rfl, _, rfl, _, _, rfl, _, rfl, _, _, rfl, _, rfl, _, _, rfl, _, rfl, _, _, rfl, _, rfl, _, _, rfl, _, rfl, _, _, rfl, _, rfl, _, _, rfl, _, rfl, rfl, ?_⟩
      refine ⟨kept_of_ c2, by omega, by omega, by simp; omega, _, names_at fk hf, ?_⟩
      refine Calls.then (H.Number_ok w2 fk nk hf hn (hT.chg c02)) ?_
      rintro v w3 ⟨rfl, c3⟩
      refine ⟨_, rfl, ?_⟩
      have hw3 := hw.keep (((chg_drew w NoS).trans c2).trans c3)
      rw [hwd] at hb ⊢
      simp only [List.length_cons, List.length_nil] at hb
      refine ⟨kept_of_ (c2.trans c3), kept_of_ ((c2.trans c3).trans (chg_alloc _ _ _)), ?_⟩
      refine Calls.then (put_lit (news := [H.nam fk, [58, 61], H.numTxt fk nk]) hw3 rfl rfl (by omega)) ?_
      intro v w4 p4
      exact ⟨rfl, p4.2.1, (Step.same hw.inl (((chg_drew w NoS).trans c2).trans c3)).trans p4.2.2⟩
    · exact kids 1 [43] (by simp [wdT, preW, postW, lst, sgn])
    · exact kids 2 [59] (by simp [wdT, preW, postW, lst, sgn])
    · obtain ⟨k0, rfl⟩ := single rfl rfl
      obtain ⟨B, rfl, hB⟩ := one k0 rfl
      have hwd : wdT (.mk 10 f n [k0]) = [40] :: (wdT k0 ++ [[41], [42]]) := by
        rw [wdT, if_neg (by decide), if_neg (fun e => absurd e.1 (by decide)), if_neg (fun e => absurd e.1 (by decide))]
        simp [preW, postW, rowW, tlW, lst, brW]
      rw [hwd] at hb ⊢
      simp only [List.length_cons, List.length_append, List.length_nil] at hb
      refine some_w ⟨_, hw.fn, ?_⟩
      refine Calls.then (put_lit (news := [[40]]) hw rfl rfl (by omega)) ?_
      intro v w2 p2
      refine some_w ⟨_, _, _, cell_keep h3 p2.2.1.old, by omega, by have : m = 1 := hlen; omega, some_w ?_⟩
      refine Calls.then (kidP _ (by simp) _ w2 wb lb _ hB p2.2.1 (by simp; omega)) ?_
      intro v w3 p3
      refine some_w ⟨_, p3.2.1.fn, ?_⟩
      refine Calls.then (put_lit (news := [[41], [42]]) p3.2.1 rfl rfl (by simp; omega)) ?_
      intro v w4 p4
      have := (p2.next p3).next p4
      simpa using this
end Go.Proofs.YtpolbdakhfcilaaGreatDoor.B

/-
  show: the document's words.
-/
set_option maxRecDepth 100000
set_option linter.unusedVariables false
set_option linter.unusedSimpArgs false
namespace Go.Proofs.YtpolbdakhfcilaaGreatDoor.B
open Go Go.Proofs Go.Proofs.YtpolbdakhfcilaaGreatDoorEng Go.RowKit

/-- words with blanks between -/
def jn (l : Ws) : List UInt8 := Lib.join l [32]
theorem jn_app : ∀ (a b : Ws), a ≠ [] → b ≠ [] → jn (a ++ b) = jn a ++ 32 :: jn b
  | [], _, h, _ => absurd rfl h
  | _, [], _, h => absurd rfl h
  | x :: a, y :: b, _, _ => by
    unfold jn
    rw [List.cons_append, Lib.join_cons, Lib.join_cons, Lib.join_cons]
    simp [Lib.joinTail]
theorem jn_one (x : List UInt8) : jn [x] = x := Lib.join_one x [32]
theorem jn_cons (x : List UInt8) {l : Ws} (h : l ≠ []) : jn (x :: l) = x ++ 32 :: jn l := by
  have := jn_app [x] l (by simp) h
  rwa [jn_one] at this
theorem jn_len {l : Ws} (h : ∀ x ∈ l, x.length ≤ 84) : (jn l).length ≤ l.length * 85 := by
  have := H.join_le l [32] 84 h
  simpa [jn] using this
theorem brW_mem {b : Bool} {l : Ws} {x : List UInt8} (h : x ∈ brW b l) : x ∈ l ∨ x.length = 1 := by
  unfold brW at h
  split at h
  · rcases List.mem_cons.1 h with rfl | h
    · exact .inr rfl
    · rcases List.mem_append.1 h with h | h
      · exact .inl h
      · rw [List.mem_singleton.1 h]; exact .inr rfl
  · exact .inl h
theorem sgn_len (op : Int) : (sgn op).length ≤ 84 := by
  unfold sgn
  split <;> (try split) <;> (try split) <;> (try split) <;> simp
mutual
theorem wfine : ∀ (t : Tm) (p : Bool), shp p t = true → ∀ x ∈ wdT t, x.length ≤ 84
  | .mk op f n ks, p, h => by
    obtain ⟨hop, hnum, _, hk⟩ := ops h
    have hr := rfine (lst op) (sgn op) ks _ hk
    intro x hx
    rw [wdT] at hx
    split at hx
    · rename_i h4
      unfold leafW at hx
      split at hx
      · rw [List.mem_singleton.1 hx]; decide
      · split at hx
        · rw [List.mem_singleton.1 hx]; decide
        · have hnn : (H.nam f.toNat).length ≤ 84 ∧ (H.numTxt f.toNat n.toNat).length ≤ 84 := by
            have h27 : op = 2 ∨ op = 7 := by omega
            unfold numK at hnum
            rw [if_pos h27] at hnum
            unfold H.fitsN at hnum
            have h1 := of_decide_eq_true hnum
            have hw := H.widI_le f
            have hlt : n.toNat < 18446744073709551616 := by
              have : 2 ^ H.widI f ≤ 2 ^ 48 := Nat.pow_le_pow_right (by omega) hw
              have e : (2 : Nat) ^ 48 = 281474976710656 := by decide
              omega
            refine ⟨?_, H.numTxt_len hlt⟩
            have hf : f.toNat < 11 := by
              have := h1.1
              unfold H.widI at this
              split at this
              · rename_i hf; omega
              · omega
            have := (H.nam_len f.toNat hf).2
            omega
          split at hx
          · simp only [List.mem_cons, List.not_mem_nil, or_false] at hx
            rcases hx with rfl | rfl | rfl
            · exact hnn.1
            · decide
            · exact hnn.2
          · simp only [List.mem_cons, List.not_mem_nil, or_false] at hx
            rcases hx with rfl | rfl | rfl
            · exact hnn.1
            · decide
            · exact hnn.2
    · split at hx
      · rw [List.mem_singleton.1 hx]; decide
      · split at hx
        · rw [List.mem_singleton.1 hx]; decide
        · rcases List.mem_append.1 hx with hx | hx
          · rcases List.mem_append.1 hx with hx | hx
            · unfold preW at hx
              split at hx
              · rw [List.mem_singleton.1 hx]; decide
              · split at hx
                · rw [List.mem_singleton.1 hx]; decide
                · split at hx
                  · rw [List.mem_singleton.1 hx]; decide
                  · simp at hx
            · exact hr (sgn_len op) x hx
          · unfold postW at hx
            split at hx
            · simp only [List.mem_cons, List.not_mem_nil, or_false] at hx
              rcases hx with rfl | rfl <;> decide
            · simp at hx
theorem rfine (l : Nat) (sg : List UInt8) : ∀ (ks : List Tm) (p : Bool), shpL p ks = true → sg.length ≤ 84 → ∀ x ∈ rowW l sg ks, x.length ≤ 84
  | [], _, _, _ => by simp [rowW]
  | k :: ks, p, h, hs => by
    simp only [shpL, Bool.and_eq_true] at h
    have h1 := wfine k p h.1
    have h2 := tfine l sg ks p h.2 hs
    intro x hx
    rw [rowW] at hx
    rcases List.mem_append.1 hx with hx | hx
    · rcases brW_mem hx with hx | hx
      · exact h1 x hx
      · omega
    · exact h2 x hx
theorem tfine (l : Nat) (sg : List UInt8) : ∀ (ks : List Tm) (p : Bool), shpL p ks = true → sg.length ≤ 84 → ∀ x ∈ tlW l sg ks, x.length ≤ 84
  | [], _, _, _ => by simp [tlW]
  | k :: ks, p, h, hs => by
    simp only [shpL, Bool.and_eq_true] at h
    have h1 := wfine k p h.1
    have h2 := tfine l sg ks p h.2 hs
    intro x hx
    rw [tlW] at hx
    rcases List.mem_cons.1 hx with rfl | hx
    · exact hs
    · rcases List.mem_append.1 hx with hx | hx
      · rcases brW_mem hx with hx | hx
        · exact h1 x hx
        · omega
      · exact h2 x hx
end
theorem brW_ne {b : Bool} {l : Ws} (h : l ≠ []) : brW b l ≠ [] := by
  unfold brW
  split
  · simp
  · exact h
theorem wd_ne : ∀ (t : Tm) (p : Bool), shp p t = true → wdT t ≠ []
  | .mk op f n ks, p, h => by
    obtain ⟨hop, _, hc, hk⟩ := ops h
    rw [wdT]
    split
    · unfold leafW
      split
      · simp
      · split
        · simp
        · split <;> simp
    · rename_i h4
      split
      · simp
      · split
        · simp
        · cases ks with
          | nil =>
            exfalso
            have : loK op = 0 := by simpa using hc.1
            unfold loK at this
            split at this
            · omega
            · split at this
              · omega
              · omega
          | cons k ks =>
            simp only [shpL, Bool.and_eq_true] at hk
            have := wd_ne k _ hk.1
            have h2 := brW_ne (b := decide (strT (opS k) < lst op)) this
            simp [rowW, h2]
theorem jn_br (l : Ws) (h : l ≠ []) : jn ([40] :: (l ++ [[41]])) = [40, 32] ++ jn l ++ [32, 41] := by
  rw [jn_cons _ (by simp), jn_app _ _ h (by simp), jn_one]
  simp
theorem lit_size (l : Array UInt8) : ({ data := l } : ByteArray).size = l.size := rfl
end Go.Proofs.YtpolbdakhfcilaaGreatDoor.B

/-
  show: queries' names.
-/
set_option maxRecDepth 100000
set_option linter.unusedVariables false
set_option linter.unusedSimpArgs false
namespace Go.Proofs.YtpolbdakhfcilaaGreatDoor.B
open Go Go.Proofs Go.Proofs.YtpolbdakhfcilaaGreatDoorEng Go.RowKit

theorem ite_d {p : Prop} [Decidable p] {A B : Prop} (h1 : p → A) (h2 : ¬ p → B) : if decide p = true then A else B := by
  by_cases h : p
  · rw [if_pos (decide_eq_true h)]; exact h1 h
  · rw [if_neg (by simp [h])]; exact h2 h
theorem ite_f {p : Prop} [Decidable p] {A B : Prop} (h1 : ¬ p → A) (h2 : p → B) : if decide p = false then A else B := by
  by_cases h : p
  · rw [if_neg (by simp [h])]; exact h2 h
  · rw [if_pos (by simp [h])]; exact h1 h
theorem ite_e {a b : Int} {A B : Prop} (h1 : a = b → A) (h2 : a ≠ b → B) : if (a == b) = true then A else B := by
  by_cases h : a = b
  · rw [if_pos (by simp [h])]; exact h1 h
  · rw [if_neg (by simp [h])]; exact h2 h
theorem isAl_iff (c : Nat) : isAl c = true ↔ (65 ≤ c ∧ c ≤ 90) ∨ (97 ≤ c ∧ c ≤ 122) ∨ c = 95 ∨ (48 ≤ c ∧ c ≤ 57) := by
  unfold isAl isLet isDig
  simp only [Bool.or_eq_true, decide_eq_true_eq]
  omega
/-- the words that no query may have, but the fields' names -/
def nine : Ws := [[105, 100], [100, 114, 111, 112], [102, 105, 108, 116, 101, 114], [116, 114, 117, 101], [102, 97, 108, 115, 101], [99, 111, 117, 110, 116], [105, 102], [116, 104, 101, 110], [101, 108, 115, 101]]
def Wform (s : List UInt8) : Prop := 1 ≤ s.length ∧ s.length ≤ 32 ∧ ¬ (48 ≤ g s 0 ∧ g s 0 ≤ 57) ∧ ∀ j, j < s.length → isAl (g s j) = true
def NameP (s : List UInt8) : Prop := Wform s ∧ s ∉ H.names ∧ s ∉ nine
theorem strs_at {l : Ws} {j : Nat} (hj : j < l.length) : (H.strs l)[j]? = some (.string (bs l[j])) := by
  unfold H.strs
  rw [List.getElem?_map, List.getElem?_eq_getElem hj]
  rfl
theorem take_in {s : List UInt8} {l : Ws} {j : Nat} (hj : j < l.length) : (∃ i, i < j + 1 ∧ ∃ h : i < l.length, l[i] = s) ↔ (∃ i, i < j ∧ ∃ h : i < l.length, l[i] = s) ∨ l[j] = s := by
  constructor
  · rintro ⟨i, h1, h2, h3⟩
    rcases Nat.lt_or_eq_of_le (Nat.le_of_lt_succ h1) with h | h
    · exact .inl ⟨i, h, h2, h3⟩
    · subst h; exact .inr h3
  · rintro (⟨i, h1, h2, h3⟩ | h)
    · exact ⟨i, by omega, h2, h3⟩
    · exact ⟨j, by omega, hj, h⟩
theorem Index_ok {w : World} {b n c : Nat} {l : Ws} {s : List UInt8} (hb : ∀ j, j < n → w.cell? (addK ⟨b, 0, none⟩ (j * 1)) = (H.strs l)[j]?) (hn : n = l.length) (hn2 : n ≤ 1000) :
    Calls Tryz.prog 54 #[.slice (some ⟨b, 0, none⟩) n c, .string (bs s)] w (endW (fun v w' => ∃ x : Int, v = .int .i64 x ∧ (0 ≤ x ↔ s ∈ l) ∧ w' = w) (fun _ _ => False)) := by
  refine F54_calls (some ⟨b, 0, none⟩) n c _ ?_
  delta F54
  refine ⟨fun t w' => w' = w ∧ ∃ j : Nat, t = (j : Int) ∧ j ≤ n ∧ ∀ i (h : i < l.length), i < j → l[i] ≠ s, fun t _ => (n - t).toNat, ⟨0, ⟨rfl, trivial⟩, rfl, 0, rfl, by omega, fun i h h2 => by omega⟩, ?_⟩
  rintro t w1 ⟨rfl, j, rfl, hjn, hno⟩ _
  refine ite_d (fun hlt => ?_) (fun hge => ?_)
  · have hj : j < l.length := by omega
    refine ⟨by omega, by omega, some_w ⟨_, by rw [Int.toNat_natCast, hb j (by omega), strs_at hj], ?_⟩⟩
    rw [bs_beq]
    refine ite_d (fun he => ?_) (fun he => ?_)
    · exact ⟨_, rfl, ⟨fun _ => by rw [he]; exact List.getElem_mem hj, fun _ => by omega⟩, rfl⟩
    · refine ⟨((j + 1 : Nat) : Int), ⟨by rw [i64w _ (by omega) (by omega)]; rfl, trivial⟩, ⟨rfl, j + 1, rfl, by omega, fun i h hi => ?_⟩, by dsimp only; omega⟩
      rcases Nat.lt_or_eq_of_le (Nat.le_of_lt_succ hi) with h' | h'
      · exact hno i h h'
      · subst h'; exact fun e => he e.symm
  · refine ⟨_, rfl, ⟨fun h => by omega, fun hm => ?_⟩, rfl⟩
    obtain ⟨i, hi, e⟩ := List.mem_iff_getElem.1 hm
    exact absurd e (hno i hi (by omega))
theorem Contains_ok {w : World} {b n c : Nat} {l : Ws} {s : List UInt8} (hb : ∀ j, j < n → w.cell? (addK ⟨b, 0, none⟩ (j * 1)) = (H.strs l)[j]?) (hn : n = l.length) (hn2 : n ≤ 1000) :
    Calls Tryz.prog 32 #[.slice (some ⟨b, 0, none⟩) n c, .string (bs s)] w (endW (fun v w' => ∃ x : Bool, v = .bool x ∧ (x = true ↔ s ∈ l) ∧ w' = w) (fun _ _ => False)) := by
  refine F32_calls (some ⟨b, 0, none⟩) n c _ ?_
  delta F32
  refine Calls.then (Index_ok hb hn hn2) ?_
  rintro v w1 ⟨x, rfl, hx, rfl⟩
  exact ⟨x, rfl, _, rfl, by simpa using hx, rfl⟩
theorem name_ok (w : World) (s : List UInt8) : Calls Tryz.prog 13 #[.string (bs s)] w (endW (fun v w' => ∃ b : Bool, v = .bool b ∧ (b = true ↔ NameP s) ∧ Chg NoS w w') (fun _ _ => False)) := by
  refine F13_calls _ ?_
  delta F13
  have no : ∀ {w' : World}, Chg NoS w w' → ¬ NameP s → ∃ b : Bool, Value.bool false = .bool b ∧ (b = true ↔ NameP s) ∧ Chg NoS w w' := fun hc hn => ⟨false, rfl, by simp [hn], hc⟩
  refine ⟨fun _ w' => w' = w ∧ 1 ≤ s.length ∧ s.length ≤ 32 ∧ ¬ (48 ≤ g s 0 ∧ g s 0 ≤ 57), ?_, ?_⟩
  · rintro _ w1 ⟨rfl, h1, h2, h3⟩ _
    refine conv_bytes fun c w2 c2 hcell _ => ⟨_, _, _, rfl, ?_⟩
    refine ⟨fun t w' => w' = w2 ∧ ∃ j : Nat, t = (j : Int) ∧ j ≤ s.length ∧ ∀ i, i < j → isAl (g s i) = true, fun t _ => (s.length - t).toNat, ⟨0, ⟨rfl, trivial⟩, rfl, 0, rfl, by omega, fun i h => by omega⟩, ?_⟩
    rintro t w3 ⟨rfl, j, rfl, hjn, hal⟩ _
    refine ite_d (fun hlt => ?_) (fun hge => ?_)
    · refine ⟨fun _ w' => w' = w3 ∧ isAl (g s j) = true, ?_, by omega, by omega, some_w ⟨_, by rw [Int.toNat_natCast, Nat.mul_one]; exact hcell j (by omega), ?_⟩⟩
      · rintro _ w4 ⟨rfl, hj⟩ _
        exact ⟨((j + 1 : Nat) : Int), ⟨by rw [i64w _ (by omega) (by omega)]; rfl, trivial⟩, ⟨rfl, j + 1, rfl, by omega, fun i hi => by
          rcases Nat.lt_or_eq_of_le (Nat.le_of_lt_succ hi) with h | h
          · exact hal i h
          · subst h; exact hj⟩, by dsimp only; omega⟩
      · have yes := (isAl_iff (g s j)).2
        have nope : ¬ isAl (g s j) = true → ¬ NameP s := fun hh hn => hh (hn.1.2.2.2 j (by omega))
        have nope' : ¬ ((65 ≤ g s j ∧ g s j ≤ 90) ∨ (97 ≤ g s j ∧ g s j ≤ 122) ∨ g s j = 95 ∨ (48 ≤ g s j ∧ g s j ≤ 57)) → ¬ NameP s := fun hh => nope fun h => hh ((isAl_iff _).1 h)
        repeat' (first | refine ite_d (fun h => ?_) (fun h => ?_) | refine ite_e (fun h => ?_) (fun h => ?_))
        all_goals first
          | exact ⟨(), trivial, rfl, yes (by omega)⟩
          | exact no c2 (nope' (by omega))
    · have hj : j = s.length := by omega
      subst hj
      refine Calls.then (H.Names_ok w3) ?_
      rintro v w4 ⟨rfl, c4⟩
      refine ⟨_, rfl, _, _, rfl, _, rfl, _, _, rfl, _, rfl, _, _, rfl, _, rfl, _, _, rfl, _, rfl, _, _, rfl, _, rfl, _, _, rfl, _, rfl, _, _, rfl, _, rfl, _, _, rfl, _, rfl, _, _, rfl, _, rfl, _, _, rfl, _, rfl, _, _, rfl, _, rfl, rfl, ?_⟩
      refine ⟨fun t w' => w' = w4 ∧ ∃ j : Nat, t = (j : Int) ∧ j ≤ 11 ∧ ∀ i, i < j → H.nam i ≠ s, fun t _ => (11 - t).toNat, ⟨0, ⟨rfl, trivial⟩, rfl, 0, rfl, by omega, fun i h => by omega⟩, ?_⟩
      rintro t w5 ⟨rfl, j, rfl, hjn, hnm⟩ _
      refine ite_d (fun hlt => ?_) (fun hge => ?_)
      · refine ⟨by omega, by omega, by simp; omega, _, names_at j (by omega), ?_⟩
        rw [bs_beq]
        refine ite_d (fun he => ?_) (fun he => ?_)
        · refine no (c2.trans c4) fun hn => hn.2.1 ?_
          rw [← he]
          unfold H.nam
          have : j < H.names.length := by show j < 11; omega
          simp only [List.getD, List.getElem?_eq_getElem this]
          exact List.getElem_mem this
        · refine ⟨((j + 1 : Nat) : Int), ⟨by rw [i64w _ (by omega) (by omega)]; rfl, trivial⟩, ⟨rfl, j + 1, rfl, by omega, fun i hi => ?_⟩, by dsimp only; omega⟩
          rcases Nat.lt_or_eq_of_le (Nat.le_of_lt_succ hi) with h' | h'
          · exact hnm i h'
          · subst h'; exact he
      · have hno : s ∉ H.names := fun hm => by
          obtain ⟨i, hi, e⟩ := List.mem_iff_getElem.1 hm
          have hi' : i < 11 := hi
          refine hnm i (by omega) ?_
          unfold H.nam
          simp only [List.getD, List.getElem?_eq_getElem hi]
          exact e
        have ca := chg_alloc w5 (.cells (H.strs nine).toArray 9) NoS
        refine Calls.then (Contains_ok (l := nine) (n := 9) (fun j hj => by rw [addK_lit, Nat.zero_add, Nat.mul_one]; exact (cell_blk (blk_alloc w5 (.cells (H.strs nine).toArray 9)) j).trans (by simp)) rfl (by omega)) ?_
        rintro v w6 ⟨x, rfl, hx, rfl⟩
        refine ⟨x, rfl, _, rfl, ?_, (c2.trans c4).trans ca⟩
        rw [show ((!x) = true) = (¬ (x = true)) by simp, hx]
        exact ⟨fun h => ⟨⟨h1, h2, h3, hal⟩, hno, h⟩, fun h => h.2.2⟩
  · have hr := Chg.refl NoS w
    refine ite_f (fun h1 => ?_) (fun h1 => no hr fun hn => by have := hn.1.1; rw [bs_size] at h1; omega)
    refine ite_f (fun h2 => ?_) (fun h2 => no hr fun hn => by have := hn.1.2.1; rw [bs_size] at h2; omega)
    rw [bs_size] at h1 h2
    refine ⟨by omega, by rw [bs_size]; omega, ?_⟩
    have g0 : byteAt (bs s) 0 = (g s 0 : Int) := g_at s 0
    rw [g0]
    refine ite_d (fun h3 => ?_) (fun h3 => ⟨(), trivial, rfl, by omega, by omega, by omega⟩)
    refine ⟨by omega, by rw [bs_size]; omega, ?_⟩
    exact ite_d (fun h4 => no hr fun hn => hn.1.2.2.1 (by omega)) (fun h4 => ⟨(), trivial, rfl, by omega, by omega, by omega⟩)
end Go.Proofs.YtpolbdakhfcilaaGreatDoor.B

/-
  show: lines.
-/
set_option maxRecDepth 100000
set_option linter.unusedVariables false
set_option linter.unusedSimpArgs false
namespace Go.Proofs.YtpolbdakhfcilaaGreatDoor.B
open Go Go.Proofs Go.Proofs.YtpolbdakhfcilaaGreatDoorEng Go.RowKit

/-- the row of words, the writer, the variable that holds it, the row of lines -/
structure Ln (w0 w : World) (lb : Nat) (ls : Ws) : Prop where
  old : Chg NoS w0 w
  lo : w0.heap.size ≤ lb
  cur : ∃ x, w.heap[lb]? = some (.cells #[x] 49 (0, 0))
  wr : w.heap[lb + 1]? = some (.cells #[.func (.func 14) #[] #[.pointer (some ⟨lb, 0, none⟩)]] 53 (0, 0))
  var : w.heap[lb + 2]? = some (.cells #[.pointer (some ⟨lb + 1, 0, none⟩)] 50 (0, 0))
  row : ∃ a n c, w.heap[lb + 3]? = some (.cells #[.slice a n c] 49 (0, 0)) ∧ w.ownsRow (lb + 4) 9 1 (.slice a n c) n (H.strs ls)
theorem Ln.keep {w0 w w' : World} {lb : Nat} {ls : Ws} (h : Ln w0 w lb ls) (hc : Chg NoS w w') : Ln w0 w' lb ls := by
  obtain ⟨x, hx⟩ := h.cur
  obtain ⟨a, n, c, h1, h2⟩ := h.row
  exact ⟨h.old.trans hc, h.lo, ⟨x, hc.blk hx fun x => x⟩, hc.blk h.wr fun x => x, hc.blk h.var fun x => x, a, n, c, hc.blk h1 fun x => x, own_of_chg h2 hc fun _ _ x => x⟩
theorem line_ok {w0 w : World} {lb : Nat} {ls pre : Ws} {a1 : Option Addr} {n1 c1 : Nat} {t : Tm} {A : Addr} {p : Bool} (hT : H.Tab w0) (h : Ln w0 w lb ls) (hw : w.ownsRow (lb + 4) 9 1 (.slice a1 n1 c1) n1 (H.strs pre))
    (hdis : ∀ a n c b, w.heap[lb + 3]? = some (.cells #[.slice a n c] 49 (0, 0)) → (Value.slice a1 n1 c1).ownBlock = some b → (Value.slice a n c).ownBlock ≠ some b)
    (ht : TmP w0 t A) (hsh : shp p t = true) (hsz : tsize t ≤ 4096) (hpre : pre.length ≤ 10) (hfine : ∀ x ∈ pre, x.length ≤ 84) (hls : ls.length ≤ 1000) :
    Calls Tryz.prog 15 #[.pointer (some A), .slice a1 n1 c1, .pointer (some ⟨lb, 0, none⟩), .pointer (some ⟨lb + 2, 0, none⟩), .pointer (some ⟨lb + 3, 0, none⟩)] w (endW (fun v w' => v = .tuple #[] ∧ Ln w0 w' lb (ls ++ [jn (pre ++ wdT t)])) (fun _ _ => False)) := by
  refine F15_calls (some A) a1 n1 c1 (some ⟨lb, 0, none⟩) (some ⟨lb + 2, 0, none⟩) (some ⟨lb + 3, 0, none⟩) ?_
  delta F15
  obtain ⟨x, hx⟩ := h.cur
  obtain ⟨a, n, c, h3, ho⟩ := h.row
  have hlo := h.lo
  refine some_w ?_
  refine (setW_blk (i := 0) (v := .slice a1 n1 c1) hx (by simp) rfl fun w2 b2 c2 z2 => ?_ : setW _ _ _ _)
  have nlb : ∀ k, k ≠ lb → ¬ OnlyB lb k := fun k hk e => hk e
  have wr2 := c2.blk h.wr (nlb _ (by omega))
  have var2 := c2.blk h.var (nlb _ (by omega))
  have row2 := c2.blk h3 (nlb _ (by omega))
  have old2 : Chg NoS w0 w2 := h.old.trans2 c2 fun k hk e => by have : k = lb := e; omega
  have nown1 : ∀ k, (Value.slice a1 n1 c1).ownBlock = some k → lb + 4 ≤ k := fun k e => (own_lt' hw e).2
  have nown : ∀ k, (Value.slice a n c).ownBlock = some k → lb + 4 ≤ k := fun k e => (own_lt' ho e).2
  have hw2 := own_of_chg hw c2 fun k e x => by have : k = lb := x; have := nown1 k e; omega
  have ho2 := own_of_chg ho c2 fun k e x => by have : k = lb := x; have := nown k e; omega
  have b2' : w2.heap[lb]? = some (.cells #[.slice a1 n1 c1] 49 (0, 0)) := by simpa using b2
  have W2 : Wr w0 w2 (lb + 1) lb pre := ⟨old2, hlo, by omega, wr2, a1, n1, c1, b2', own_base' hw2 fun k e => by have := nown1 k e; omega⟩
  refine some_w ⟨_, by rw [cell_blk var2]; rfl, ?_⟩
  have hwl := wlen t
  refine Calls.then (term_ok hT t p hsh hsz A w2 (lb + 1) lb pre ht W2 (by omega)) ?_
  rintro v w3 ⟨rfl, W3, st3⟩
  have own2 : ∀ b, OwnL w2 lb b → b = lb ∨ (lb + 4 ≤ b ∧ (Value.slice a n c).ownBlock ≠ some b) := fun b hb => by
    rcases hb with hb | ⟨a', n', c', e1, e2⟩
    · exact .inl hb
    · rw [b2'] at e1
      simp only [Option.some.injEq, Obj.cells.injEq] at e1
      have e1' := e1.1
      simp at e1'
      obtain ⟨rfl, rfl, rfl⟩ := e1'
      exact .inr ⟨nown1 b e2, hdis a n c b h3 e2⟩
  have nO : ∀ k, k ≠ lb → k < lb + 4 → ¬ OwnL w2 lb k := fun k h1 h2 hb => by
    rcases own2 k hb with e | ⟨e, _⟩ <;> omega
  have var3 := st3.1.blk var2 (nO _ (by omega) (by omega))
  have wr3 := st3.1.blk wr2 (nO _ (by omega) (by omega))
  have row3 := st3.1.blk row2 (nO _ (by omega) (by omega))
  have ho3 := own_of_chg ho2 st3.1 fun k e hb => by
    rcases own2 k hb with e2 | ⟨_, e2⟩
    · have := nown k e; omega
    · exact e2 e
  obtain ⟨a3, n3, c3, l3, o3⟩ := W3.row
  have cd := chg_drew w3 NoS
  refine ⟨NoS, fun x => x, some_w ⟨_, _, _, by rw [cell_blk (cd.blk row3 fun x => x)]; rfl, fun x => x, some_w ⟨_, _, _, by rw [cell_blk (cd.blk l3 fun x => x)]; rfl, ?_⟩⟩⟩
  have hl1 := jn_len (l := pre ++ wdT t) (fun x hx => by
    rcases List.mem_append.1 hx with hx | hx
    · exact hfine x hx
    · exact wfine t p hsh x hx)
  have hl2 : (pre ++ wdT t).length * 85 ≤ 30000 * 85 := Nat.mul_le_mul_right _ (by rw [List.length_append]; omega)
  refine Calls.then (H.Join_own (sep := [32]) (own_of_chg o3 cd fun _ _ x => x) (by rw [List.length_append]; omega) (by unfold jn at hl1; omega)) ?_
  rintro v w4 ⟨rfl, c4⟩
  refine ⟨_, rfl, kept_of_ c4, kept_of_ (c4.trans (chg_alloc _ _ _)), ?_⟩
  have c34 := cd.trans c4
  have hn : ls.length = n := by have := ho.1; rw [H.strs_length] at this; omega
  have hsz4 : lb + 4 ≤ w4.heap.size := by have := lt_of_blk (c34.blk row3 fun x => x); omega
  refine H.strs_push (own_of_chg ho3 c34 fun _ _ x => x) (by omega) hsz4 ?_
  intro a5 c5 w5 o5 cc5
  refine ⟨_, _, _, rfl, some_w ?_⟩
  have row5 := cc5.blk (c34.blk row3 fun x => x) (by omega)
  refine (setW_blk (i := 0) (v := .slice a5 (n + 1) c5) row5 (by simp) rfl fun w6 b6 c6 z6 => ?_ : setW _ _ _ _)
  have n6 : ∀ k, k ≠ lb + 3 → ¬ OnlyB (lb + 3) k := fun k hk e => hk e
  have old6 : Chg NoS w0 w6 := ((W3.old.trans c34).trans2 cc5 fun k hk e => by have : lb + 4 ≤ k := e; omega).trans2 c6 fun k hk e => by have : k = lb + 3 := e; omega
  refine ⟨rfl, old6, hlo, ⟨_, c6.blk (cc5.blk (c34.blk l3 fun x => x) (by omega)) (n6 _ (by omega))⟩, c6.blk (cc5.blk (c34.blk wr3 fun x => x) (by omega)) (n6 _ (by omega)), c6.blk (cc5.blk (c34.blk var3 fun x => x) (by omega)) (n6 _ (by omega)), a5, n + 1, c5, by simpa using b6, ?_⟩
  exact own_of_chg o5 c6 fun k e x => by have : k = lb + 3 := x; have := (own_lt' o5 e).2; omega
end Go.Proofs.YtpolbdakhfcilaaGreatDoor.B

/-
  show: Text.
-/
set_option maxRecDepth 100000
set_option linter.unusedVariables false
set_option linter.unusedSimpArgs false
namespace Go.Proofs.YtpolbdakhfcilaaGreatDoor.B
open Go Go.Proofs Go.Proofs.YtpolbdakhfcilaaGreatDoorEng Go.RowKit

def nmL (q : Qu) : List UInt8 := q.1.data.toList
def cnt5 : List UInt8 := [99, 111, 117, 110, 116]
def preQ (q : Qu) : Ws := [cnt5, nmL q, [61]]
def lineQ (q : Qu) : List UInt8 := jn (preQ q ++ wdT q.2)
def linesT (main : Tm) (qs : List Qu) : Ws := jn (wdT main) :: qs.map lineQ
def textT (main : Tm) (qs : List Qu) : List UInt8 := Lib.join (linesT main qs) [10] ++ [10]
/-- may a policy be told? -/
def RightP (main : Tm) (qs : List Qu) : Prop := qs.length ≤ 32 ∧ shp false main = true ∧ (∀ q ∈ qs, shp true q.2 = true ∧ NameP (nmL q)) ∧ lsize (main :: preds qs) ≤ 4096 ∧ ldepth (main :: preds qs) ≤ 128
def TextP (main : Tm) (qs : List Qu) (o : List UInt8 × Int) : Prop :=
  (RightP main qs ∧ (textT main qs).length ≤ 65536 ∧ o = (textT main qs, 0)) ∨ (RightP main qs ∧ 65536 < (textT main qs).length ∧ o = ([], 3)) ∨ (¬ RightP main qs ∧ o = ([], 170))
theorem TextP.det {main : Tm} {qs : List Qu} {o o' : List UInt8 × Int} (h : TextP main qs o) (k : TextP main qs o') : o = o' := by
  rcases h with ⟨a, b, rfl⟩ | ⟨a, b, rfl⟩ | ⟨a, rfl⟩ <;> rcases k with ⟨a', b', rfl⟩ | ⟨a', b', rfl⟩ | ⟨a', rfl⟩ <;> first | rfl | (exfalso; omega) | exact absurd a a' | exact absurd a' a
theorem preds_take (qs : List Qu) {j : Nat} (hj : j < qs.length) : preds (qs.take (j + 1)) = preds (qs.take j) ++ [qs[j].2] := by
  unfold preds
  rw [List.take_add_one, List.getElem?_eq_getElem hj, List.map_append]
  rfl
theorem len_of (P : Nat → Prop) (h : P 0) : P 0 := h
theorem right_at {main : Tm} {qs : List Qu} (h : RightP main qs) {j : Nat} (hj : j < qs.length) : okR true 1 (tsize main + lsize (preds (qs.take j))) qs[j].2 := by
  obtain ⟨_, _, h2, h3, h4⟩ := h
  have e : preds qs = preds (qs.take (j + 1)) ++ preds (qs.drop (j + 1)) := by
    unfold preds
    rw [← List.map_append, List.take_append_drop]
  rw [preds_take qs hj] at e
  simp only [lsize, ldepth] at h3 h4
  rw [e, lsize_append, lsize_append] at h3
  rw [e, ldepth_append, ldepth_append] at h4
  simp only [lsize, ldepth] at h3 h4
  exact ⟨(h2 _ (List.getElem_mem hj)).1, by omega, by omega⟩
theorem Text_ok (w : World) {u : V4} {qa : Option Addr} {n c : Nat} {main : Tm} {qs : List Qu} (hT : H.Tab w) (hu : u.is w main) (hq : QsAt w qs qa) (hn : n = qs.length) :
    Calls Tryz.prog 6 #[.agg (parr u qa n c)] w (endW (fun v w' => ∃ o, TextP main qs o ∧ v = .tuple #[.string (bs o.1), .int .i64 o.2] ∧ Chg NoS w w') (fun _ _ => False)) := by
  refine F6_calls u.op u.f u.n u.b u.m u.c qa n c ?_
  delta F6
  have c0 : Chg NoS w (w.alloc (.cells (parr u qa n c) 29)) := chg_alloc w _ _
  have b0 : (w.alloc (.cells (parr u qa n c) 29)).heap[w.heap.size]? = some (.cells (parr u qa n c) 29 (0, 0)) := blk_alloc w _
  have e0 : (w.alloc (.cells (parr u qa n c) 29)).heap.size = w.heap.size + 1 := size_alloc w _
  generalize (w.alloc (.cells (parr u qa n c) 29)) = w0 at c0 b0 e0 ⊢
  have no : ∀ {w' : World}, Chg NoS w0 w' → ¬ RightP main qs → ∃ o, TextP main qs o ∧ Value.tuple #[.string { data := #[] }, .int .i64 170] = .tuple #[.string (bs o.1), .int .i64 o.2] ∧ Chg NoS w w' := fun hc hn => ⟨([], 170), .inr (.inr ⟨hn, rfl⟩), rfl, c0.trans hc⟩
  have cl : ∀ {w' : World}, Chg NoS w0 w' → ∀ (k : Nat) (v : Value), (parr u qa n c)[k]? = some v → w'.cell? (addK ⟨w.heap.size, 0, none⟩ k) = some v := fun hc k v hv => by
    rw [addK_lit, Nat.zero_add]
    exact cell_keep (by rw [cell_blk b0]; exact hv) hc
  have r0 := Chg.refl NoS w0
  have hT0 := hT.chg c0
  have hm0 : TmP w0 main (addK ⟨w.heap.size, 0, none⟩ 0) := by
    rw [addK_zero]
    exact ⟨u.op, u.f, u.n, u.b, u.m, u.c, cl r0 0 _ rfl, cl r0 1 _ rfl, cl r0 2 _ rfl, cl r0 3 _ rfl, TVal.keep c0 hu⟩
  have hq0 := hq.keep c0
  refine ⟨_, _, _, cl r0 4 _ rfl, ?_⟩
  refine ite_d (fun h32 => no r0 fun h => by have := h.1; omega) (fun h32 => ?_)
  have ck := chg_alloc w0 (.cells #[.int .i64 0] 46) NoS
  have bk := blk_alloc w0 (.cells #[.int .i64 0] 46)
  refine Calls.then (right_ok (x := 0) (deep := 1) main _ (w0.alloc (.cells #[.int .i64 0] 46)) w0.heap.size false hm0 ⟨bk, ck, Nat.le_refl _⟩ (by omega) (by omega) (by omega)) ?_
  rintro v w1 ⟨rfl, y, hC1, _, hy⟩
  refine ⟨_, rfl, ?_⟩
  by_cases hr : okR false 1 0 main
  · rw [if_neg (by simp [hr])]
    have hy := hy hr
    subst hy
    rw [Nat.zero_add] at hC1
    obtain ⟨rs, rd, rz⟩ := hr
    refine ⟨_, _, _, cl hC1.2.1 4 _ rfl, ?_⟩
    refine ⟨fun s w2 => ∃ j : Nat, s = (j : Int) ∧ j ≤ n ∧ Cn w0 w2 w0.heap.size ((tsize main + lsize (preds (qs.take j)) : Nat) : Int) ∧ (∀ q ∈ qs.take j, shp true q.2 = true ∧ NameP (nmL q)) ∧ lsize (main :: preds (qs.take j)) ≤ 4096 ∧ ldepth (main :: preds (qs.take j)) ≤ 128, fun s _ => (n - s).toNat, ⟨0, ⟨rfl, trivial⟩, 0, rfl, by omega, by simpa [preds, lsize] using hC1, by simp, by simp [preds, lsize]; omega, by simp [preds, ldepth]; omega⟩, ?_⟩
    rintro s w2 ⟨j, rfl, hjn, hC2, hall, hls, hld⟩ _
    refine ite_d (fun hlt => ?_) (fun hge => ?_)
    · have hj : j < qs.length := by omega
      refine ⟨_, _, _, cl hC2.2.1 4 _ rfl, by omega, by show (j : Int) < (n : Int); omega, ?_⟩
      obtain ⟨B, hB0, hB1, hB2⟩ := hq0 j qs[j] (List.getElem?_eq_getElem hj)
      subst hB0
      refine some_w ?_
      rw [Int.toNat_natCast]
      have e1 : lsize (main :: preds (qs.take j)) = tsize main + lsize (preds (qs.take j)) := by simp only [lsize]
      refine Calls.then (right_ok (x := tsize main + lsize (preds (qs.take j))) (deep := 1) qs[j].2 _ w2 w0.heap.size true hB2 hC2 (by omega) (by omega) (by omega)) ?_
      rintro v w3 ⟨rfl, y, hC3, _, hy⟩
      refine ⟨_, rfl, ?_⟩
      by_cases hr : okR true 1 (tsize main + lsize (preds (qs.take j))) qs[j].2
      · rw [if_pos (by simp [hr])]
        have hy := hy hr
        subst hy
        refine ⟨_, _, _, cl hC3.2.1 4 _ rfl, by omega, by show (j : Int) < (n : Int); omega, some_w ⟨_, cell_keep hB1 hC3.2.1, ?_⟩⟩
        have hnm := name_ok w3 (nmL qs[j])
        have eb : bs (nmL qs[j]) = qs[j].1 := bs_data _
        rw [eb] at hnm
        refine Calls.then hnm ?_
        rintro v w4 ⟨b, rfl, hb, c4⟩
        refine ⟨_, rfl, ?_⟩
        by_cases hnb : NameP (nmL qs[j])
        · have hb' := hb.2 hnb
          subst hb'
          rw [if_neg (by simp)]
          have hpt := preds_take qs hj
          refine ⟨((j + 1 : Nat) : Int), ⟨by rw [i64w _ (by omega) (by omega)]; rfl, trivial⟩, ⟨j + 1, rfl, by omega, ?_, ?_, ?_, ?_⟩, by dsimp only; omega⟩
          · rw [hpt, lsize_append]
            simp only [lsize]
            have := hC3.keep c4
            rw [show tsize main + (lsize (preds (qs.take j)) + (tsize qs[j].2 + 0)) = tsize main + lsize (preds (qs.take j)) + tsize qs[j].2 by omega]
            exact this
          · intro q hqm
            rw [List.take_add_one, List.getElem?_eq_getElem hj] at hqm
            rcases List.mem_append.1 hqm with h | h
            · exact hall q h
            · have : q = qs[j] := by simpa using h
              rw [this]
              exact ⟨hr.1, hnb⟩
          · rw [hpt]
            simp only [lsize, lsize_append]
            have := hr.2.2
            omega
          · rw [hpt]
            simp only [ldepth, ldepth_append]
            simp only [ldepth] at hld
            have := hr.2.1
            omega
        · have hb' : b = false := by
            cases b with
            | false => rfl
            | true => exact absurd (hb.1 rfl) hnb
          subst hb'
          rw [if_pos (by simp)]
          exact no (hC3.2.1.trans c4) fun h => hnb (h.2.2.1 _ (List.getElem_mem hj)).2
      · rw [if_neg (by simp [hr])]
        exact no hC3.2.1 fun h => hr (right_at h hj)
    · have hj : j = qs.length := by omega
      subst hj
      rw [List.take_length] at hC2 hall hls hld
      have hR : RightP main qs := ⟨by omega, rs, hall, hls, hld⟩
      have zA : (w2.alloc (.cells #[.slice none 0 0] 49)).heap.size = w2.heap.size + 1 := size_alloc _ _
      have zB : ((w2.alloc (.cells #[.slice none 0 0] 49)).alloc (.cells #[.func (.func 14) #[] #[.pointer (some ⟨w2.heap.size, 0, none⟩)]] 53)).heap.size = w2.heap.size + 2 := by rw [size_alloc, zA]
      have cA := chg_alloc w2 (.cells #[.slice none 0 0] 49) NoS
      have bA := blk_alloc w2 (.cells #[.slice none 0 0] 49)
      have cB := chg_alloc (w2.alloc (.cells #[.slice none 0 0] 49)) (.cells #[.func (.func 14) #[] #[.pointer (some ⟨w2.heap.size, 0, none⟩)]] 53) NoS
      have bB := blk_alloc (w2.alloc (.cells #[.slice none 0 0] 49)) (.cells #[.func (.func 14) #[] #[.pointer (some ⟨w2.heap.size, 0, none⟩)]] 53)
      have cC := chg_alloc ((w2.alloc (.cells #[.slice none 0 0] 49)).alloc (.cells #[.func (.func 14) #[] #[.pointer (some ⟨w2.heap.size, 0, none⟩)]] 53)) (.cells #[.pointer none] 50) NoS
      have bC := blk_alloc ((w2.alloc (.cells #[.slice none 0 0] 49)).alloc (.cells #[.func (.func 14) #[] #[.pointer (some ⟨w2.heap.size, 0, none⟩)]] 53)) (.cells #[.pointer none] 50)
      have zC := size_alloc ((w2.alloc (.cells #[.slice none 0 0] 49)).alloc (.cells #[.func (.func 14) #[] #[.pointer (some ⟨w2.heap.size, 0, none⟩)]] 53)) (.cells #[.pointer none] 50)
      rw [zB] at bC zC
      rw [zA] at bB
      rw [zB, zA]
      refine (setW_blk (i := 0) (v := .pointer (some ⟨w2.heap.size + 1, 0, none⟩)) bC (by simp) rfl fun w3 b3 c3 z3 => ?_ : setW _ _ _ _)
      generalize hlb : w2.heap.size = lb at *
      rw [zC] at z3
      have n3 : ∀ k, k ≠ lb + 2 → ¬ OnlyB (lb + 2) k := fun k hk e => hk e
      have lo0 : w0.heap.size ≤ lb := by rw [← hlb]; exact hC2.2.1.size
      have old3 : Chg NoS w0 w3 := (((hC2.2.1.trans cA).trans cB).trans cC).trans2 c3 fun k hk e => by have : k = lb + 2 := e; omega
      have cD := chg_alloc w3 (.cells #[.slice none 0 0] 49) NoS
      have bD := blk_alloc w3 (.cells #[.slice none 0 0] 49)
      rw [z3] at bD
      have hLn : Ln w0 (w3.alloc (.cells #[.slice none 0 0] 49)) lb [] := by
        refine ⟨old3.trans cD, lo0, ⟨.slice none 0 0, cD.blk (c3.blk (cC.blk (cB.blk bA fun x => x) fun x => x) (n3 _ (by omega))) fun x => x⟩, cD.blk (c3.blk (cC.blk bB fun x => x) (n3 _ (by omega))) fun x => x, cD.blk (by simpa using b3) fun x => x, none, 0, 0, bD, own_nil' _ _ _ _⟩
      rw [z3]
      have hsm : tsize main ≤ 4096 := by omega
      have hlq : ∀ q ∈ qs, tsize q.2 ≤ 4096 := fun q hqm => by
        obtain ⟨j, hj, rfl⟩ := List.mem_iff_getElem.1 hqm
        have := (right_at hR hj).2.2
        omega
      refine Calls.then (line_ok (pre := []) hT0 hLn (own_nil' _ _ _ _) (fun a n c b _ e => by cases e) hm0 rs hsm (by simp) (by simp) (by simp)) ?_
      rintro v w4 ⟨rfl, hL4⟩
      refine ⟨_, _, _, cl hL4.old 4 _ rfl, ?_⟩
      refine ⟨fun s w5 => ∃ j : Nat, s = (j : Int) ∧ j ≤ n ∧ Ln w0 w5 lb (jn (wdT main) :: (qs.take j).map lineQ), fun s _ => (n - s).toNat, ⟨0, ⟨rfl, trivial⟩, 0, rfl, by omega, by simpa using hL4⟩, ?_⟩
      rintro s w5 ⟨j, rfl, hjn, hL5⟩ _
      refine ite_d (fun hlt => ?_) (fun hge => ?_)
      · have hj : j < qs.length := by omega
        have cd := chg_drew w5 NoS
        have hLd := hL5.keep cd
        obtain ⟨B, hB0, hB1, hB2⟩ := hq0 j qs[j] (List.getElem?_eq_getElem hj)
        subst hB0
        have ce := chg_alloc w5.drew (.cells (H.strs (preQ qs[j])).toArray 9) NoS
        have be := blk_alloc w5.drew (.cells (H.strs (preQ qs[j])).toArray 9)
        have hLe := hLd.keep ce
        have eb : bs (nmL qs[j]) = qs[j].1 := bs_data _
        have hcs : (#[.string { data := #[(99 : UInt8), (111 : UInt8), (117 : UInt8), (110 : UInt8), (116 : UInt8)] }, .string qs[j].1, .string { data := #[(61 : UInt8)] }] : Array Value) = (H.strs (preQ qs[j])).toArray := by
          rw [← eb]; rfl
        have hnm := (hR.2.2.1 _ (List.getElem_mem hj))
        obtain ⟨x4, x5, x6, x7, x8⟩ := hLd.row
        have hlt4 : lb + 4 ≤ w5.drew.heap.size := by have := lt_of_blk x7; omega
        refine ⟨_, _, _, cl hLd.old 4 _ rfl, by omega, by show (j : Int) < (n : Int); omega, some_w ⟨_, _, _, cl hLd.old 4 _ rfl, by omega, by show (j : Int) < (n : Int); omega, some_w ⟨_, cell_keep hB1 hLd.old, ?_⟩⟩⟩
        rw [hcs, Int.toNat_natCast]
        refine ⟨ce.sameOld, ?_⟩
        refine Calls.then (line_ok (pre := preQ qs[j]) (a1 := some ⟨w5.drew.heap.size, 0, none⟩) (n1 := 3) (c1 := 3) hT0 hLe ⟨by simp [H.strs, preQ], .inr ⟨w5.drew.heap.size, 3, (H.strs (preQ qs[j])).toArray, rfl, hlt4, be, Nat.le_refl _, by simp [maxLen], by simp [H.strs, preQ], by simp [H.strs, preQ]⟩⟩ (fun a n c b h1 e => ?_) hB2 hnm.1 (hlq _ (List.getElem_mem hj)) (by simp [preQ]) ?_ (by simp; omega)) ?_
        · have : w5.drew.heap.size = b := by simpa [Value.ownBlock] using e
          subst this
          intro e2
          rw [ce.blk x7 fun x => x] at h1
          simp only [Option.some.injEq, Obj.cells.injEq] at h1
          have h1' := h1.1
          simp at h1'
          obtain ⟨rfl, rfl, rfl⟩ := h1'
          have := (own_lt' x8 e2).1
          omega
        · intro x hx
          simp only [preQ, List.mem_cons, List.not_mem_nil, or_false] at hx
          rcases hx with rfl | rfl | rfl
          · decide
          · have := hnm.2.1.2.1; omega
          · decide
        · rintro v w6 ⟨rfl, hL6⟩
          refine ⟨((j + 1 : Nat) : Int), ⟨by rw [i64w _ (by omega) (by omega)]; rfl, trivial⟩, ⟨j + 1, rfl, by omega, ?_⟩, by dsimp only; omega⟩
          rw [List.take_add_one, List.getElem?_eq_getElem hj, List.map_append]
          exact hL6
      · have hj : j = qs.length := by omega
        subst hj
        rw [List.take_length] at hL5
        obtain ⟨a7, n7, c7, r7, o7⟩ := hL5.row
        have hlen : (linesT main qs).length ≤ 33 := by simp [linesT]; omega
        have hll : ∀ x ∈ linesT main qs, x.length ≤ 30000 * 85 := fun x hx => by
          unfold linesT at hx
          rcases List.mem_cons.1 hx with rfl | hx
          · have h1 := jn_len (wfine main false rs)
            have h2 := wlen main
            have h3 : (wdT main).length * 85 ≤ 30000 * 85 := Nat.mul_le_mul_right _ (by omega)
            omega
          · obtain ⟨q, hqm, rfl⟩ := List.mem_map.1 hx
            have hnm := hR.2.2.1 q hqm
            have h1 := jn_len (l := preQ q ++ wdT q.2) (fun x hx => by
              rcases List.mem_append.1 hx with hx | hx
              · simp only [preQ, List.mem_cons, List.not_mem_nil, or_false] at hx
                rcases hx with rfl | rfl | rfl
                · decide
                · have := hnm.2.1.2.1; omega
                · decide
              · exact wfine q.2 true hnm.1 x hx)
            have h2 := wlen q.2
            have h4 := hlq q hqm
            have h3 : (preQ q ++ wdT q.2).length * 85 ≤ 30000 * 85 := Nat.mul_le_mul_right _ (by rw [List.length_append]; simp [preQ]; omega)
            unfold lineQ
            omega
        have hjl := H.join_le (linesT main qs) [10] _ hll
        have hjl2 : (linesT main qs).length * (([10] : List UInt8).length + 30000 * 85) ≤ 33 * 2550001 := Nat.mul_le_mul hlen (by simp)
        refine ⟨_, _, _, by rw [cell_blk r7]; rfl, ?_⟩
        refine Calls.then (H.Join_own (ls := linesT main qs) (sep := [10]) o7 (by omega) (by omega)) ?_
        rintro v w8 ⟨rfl, c8⟩
        have et : bs (Lib.join (linesT main qs) [10]) ++ ({ data := #[(10 : UInt8)] } : ByteArray) = bs (textT main qs) := bs_app _ [10]
        refine ⟨_, rfl, ?_, ?_⟩
        · show _ ≤ (9223372036854775807 : Int)
          rw [bs_size]; omega
        rw [et, bs_size]
        have c08 := c0.trans (hL5.old.trans c8)
        refine ite_d (fun hbig => ?_) (fun hsm => ?_)
        · exact ⟨([], 3), .inr (.inl ⟨hR, by omega, rfl⟩), rfl, c08⟩
        · exact ⟨(textT main qs, 0), .inl ⟨hR, by omega, rfl⟩, rfl, c08⟩
  · rw [if_pos (by simp [hr])]
    refine no hC1.2.1 fun h => hr ⟨h.2.1, ?_, ?_⟩
    · have := h.2.2.2.2
      simp only [ldepth] at this
      omega
    · have := h.2.2.2.1
      simp only [lsize] at this
      omega
end Go.Proofs.YtpolbdakhfcilaaGreatDoor.B
